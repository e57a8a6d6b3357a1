/- Contracts of the patterns' laws that are left, and plain facts. Plain facts: all patterns that fit, in order; the maximal ones; the dearest one. Plain facts: the search for the maximal patterns finds them all; the search for the dearest one finds it. -/
import Derived.Test.YtdeaaonppokgkaaGreatH9
set_option maxRecDepth 100000
set_option linter.unusedSimpArgs false
set_option linter.unusedVariables false
namespace Go.Proofs.YtdeaaonppokgkaaGreat.Pat
open Go.RowKit
end Go.Proofs.YtdeaaonppokgkaaGreat.Pat
namespace Go.Proofs.YtdeaaonppokgkaaGreat.Pat
open Go.RowKit
/-- Rows of ints that are only read, by a list of lists. -/
def rLL (P : List (List Int)) : Ob := ⟨3, true, .row 1 P.length (fun i => (ix P i).length) (fun _ => 0) (fun i k => [.v (.int .i64 (ix (ix P i) k))])⟩
attribute [push_cast] rLL
end Go.Proofs.YtdeaaonppokgkaaGreat.Pat
namespace Go.Proofs.YtdeaaonppokgkaaGreat.Pat
open Go.RowKit
end Go.Proofs.YtdeaaonppokgkaaGreat.Pat
namespace Go.Proofs.YtdeaaonppokgkaaGreat.Pat
open Go.RowKit
end Go.Proofs.YtdeaaonppokgkaaGreat.Pat
namespace Go.Proofs.YtdeaaonppokgkaaGreat.Pat
open Go.RowKit
end Go.Proofs.YtdeaaonppokgkaaGreat.Pat
namespace Go.Proofs.YtdeaaonppokgkaaGreat.Pat
open Go.RowKit
theorem order_pos {l : List Pc} (h : orderB l = true) : ∀ p ∈ l, 1 ≤ p.len ∧ p.len ≤ 1048576 ∧ 1 ≤ p.cnt ∧ p.cnt ≤ 1000000 := fun p hp => by
  obtain ⟨k, hk, rfl⟩ := List.getElem_of_mem hp
  rw [← ix_eq hk]
  exact order_at h hk
theorem sumL_nonneg : ∀ {l : List Pc} {ns : List Int}, (∀ p ∈ l, 1 ≤ p.len) → inB l ns = true → 0 ≤ sumL l ns
  | [], _, _, _ => by simp [sumL]
  | _ :: _, [], _, _ => by simp [sumL]
  | p :: l, n :: ns, h, hi => by
    simp only [inB, Bool.and_eq_true, decide_eq_true_eq] at hi
    have h1 := h p (List.mem_cons_self ..)
    have h2 := sumL_nonneg (fun q hq => h q (List.mem_cons_of_mem _ hq)) hi.2
    have := Int.mul_nonneg (show 0 ≤ p.len by omega) hi.1.1
    simp only [sumL]
    omega
end Go.Proofs.YtdeaaonppokgkaaGreat.Pat
namespace Go.Proofs.YtdeaaonppokgkaaGreat.Pat
open Go.RowKit
/-- All patterns that fit, the greatest one first. -/
def eachG : List Pc → Int → List (List Int)
  | [], _ => [[]]
  | p :: l, left => downG (fun n => (eachG l (left - n * p.len)).map (n :: ·)) (fun _ => false) (mostF p left).toNat
abbrev PosL (l : List Pc) : Prop := ∀ p ∈ l, 1 ≤ p.len ∧ 1 ≤ p.cnt
theorem posL_of {l : List Pc} (h : orderB l = true) : PosL l := fun p hp => ⟨(order_pos h p hp).1, (order_pos h p hp).2.2.1⟩
theorem PosL.tail {p : Pc} {l : List Pc} (h : PosL (p :: l)) : PosL l := fun q hq => h q (List.mem_cons_of_mem _ hq)
theorem PosL.head {p : Pc} {l : List Pc} (h : PosL (p :: l)) : 1 ≤ p.len ∧ 1 ≤ p.cnt := h p (List.mem_cons_self ..)
theorem mem_downG {α : Type} {g : Int → List α} {x : α} : ∀ {m : Nat}, x ∈ downG g (fun _ => false) m ↔ ∃ n : Nat, n ≤ m ∧ x ∈ g n
  | 0 => by
    simp only [downG, Bool.false_eq_true, if_false]
    constructor
    · intro h; exact ⟨0, Nat.le_refl _, h⟩
    · rintro ⟨n, hn, h⟩
      obtain rfl : n = 0 := by omega
      exact h
  | m + 1 => by
    simp only [downG, Bool.false_eq_true, if_false, List.mem_append, mem_downG]
    constructor
    · rintro (h | ⟨n, hn, h⟩)
      · exact ⟨m + 1, Nat.le_refl _, h⟩
      · exact ⟨n, by omega, h⟩
    · rintro ⟨n, hn, h⟩
      by_cases e : n = m + 1
      · subst e; exact .inl h
      · exact .inr ⟨n, by omega, h⟩
theorem most_nonneg {p : Pc} {left : Int} (hp : 1 ≤ p.len ∧ 1 ≤ p.cnt) (h0 : 0 ≤ left) : 0 ≤ mostF p left := by
  have := Int.ediv_nonneg h0 (show 0 ≤ p.len by omega)
  unfold mostF
  omega
theorem most_mul {p : Pc} {left n : Int} (hp : 1 ≤ p.len ∧ 1 ≤ p.cnt) (h : n ≤ mostF p left) : n * p.len ≤ left :=
  (Int.le_ediv_iff_mul_le (show 0 < p.len by omega)).1 (by unfold mostF at h; omega)
theorem most_iff {p : Pc} {left n : Int} (hp : 1 ≤ p.len ∧ 1 ≤ p.cnt) : n ≤ mostF p left ↔ n ≤ p.cnt ∧ n * p.len ≤ left := by
  rw [← Int.le_ediv_iff_mul_le (show 0 < p.len by omega)]
  unfold mostF
  omega
theorem mem_eachG : ∀ {l : List Pc} {left : Int} {q : List Int}, PosL l → 0 ≤ left → (q ∈ eachG l left ↔ q.length = l.length ∧ inB l q = true ∧ sumL l q ≤ left)
  | [], left, q, _, h0 => by
    simp only [eachG, List.mem_singleton]
    constructor
    · rintro rfl; exact ⟨rfl, rfl, h0⟩
    · rintro ⟨h, _, _⟩; exact List.length_eq_zero_iff.1 h
  | p :: l, left, q, hp, h0 => by
    have hpp := hp.head
    simp only [eachG, mem_downG, List.mem_map]
    constructor
    · rintro ⟨n, hn, s, hs, rfl⟩
      have hn : (n : Int) ≤ mostF p left := by have := most_nonneg hpp h0; omega
      have h1 := most_mul hpp hn
      obtain ⟨s1, s2, s3⟩ := (mem_eachG hp.tail (by omega)).1 hs
      have hc := (most_iff hpp).1 hn
      refine ⟨by simp [s1], ?_, ?_⟩
      · simp only [inB, s2, Bool.and_true, Bool.and_eq_true, decide_eq_true_eq]
        omega
      · simp only [sumL]
        rw [Int.mul_comm]
        omega
    · match q with
      | [] => rintro ⟨h, _⟩; simp at h
      | n :: s =>
        rintro ⟨h1, h2, h3⟩
        simp only [inB, Bool.and_eq_true, decide_eq_true_eq] at h2
        simp only [sumL] at h3
        have := sumL_nonneg (fun q hq => (hp.tail q hq).1) h2.2
        rw [Int.mul_comm] at h3
        have hm : n ≤ mostF p left := (most_iff hpp).2 ⟨h2.1.2, by omega⟩
        refine ⟨n.toNat, by omega, s, ?_, ?_⟩
        · rw [show ((n.toNat : Nat) : Int) = n by omega]
          exact (mem_eachG hp.tail (by omega)).2 ⟨by simpa using h1, h2.2, by omega⟩
        · rw [show ((n.toNat : Nat) : Int) = n by omega]
/-- The greatest pattern that fits. -/
def fillL : Int → List Pc → List Int
  | _, [] => []
  | left, p :: l => mostF p left :: fillL (left - mostF p left * p.len) l
theorem fillL_len : ∀ (left : Int) (l : List Pc), (fillL left l).length = l.length
  | _, [] => rfl
  | left, p :: l => by simp [fillL, fillL_len]
theorem downG_head {α : Type} {g : Int → List α} {m : Nat} {x : α} {r : List α} (h : g m = x :: r) : ∃ r', downG g (fun _ => false) m = x :: r' := by
  cases m with
  | zero => exact ⟨r, by simpa [downG] using h⟩
  | succ m => exact ⟨r ++ downG g (fun _ => false) m, by
      rw [downG, if_neg (by simp)]
      rw [show ((m + 1 : Nat) : Int) = (m : Int) + 1 by omega] at h
      rw [h]; rfl⟩
theorem eachG_head : ∀ {l : List Pc} {left : Int}, PosL l → 0 ≤ left → ∃ r, eachG l left = fillL left l :: r
  | [], left, _, _ => ⟨[], rfl⟩
  | p :: l, left, hp, h0 => by
    have hm := most_nonneg hp.head h0
    obtain ⟨r, hr⟩ := eachG_head (l := l) (left := left - mostF p left * p.len) hp.tail (by have := most_mul hp.head (Int.le_refl (mostF p left)); omega)
    rw [eachG, fillL]
    refine downG_head (r := r.map (mostF p left :: ·)) ?_
    rw [show (((mostF p left).toNat : Nat) : Int) = mostF p left by omega, hr]
    rfl
/-- What comes ahead of the rest in the next lesser pattern. -/
def lessB : List Int → Option (List Int)
  | [] => none
  | n :: ns => match lessB ns with
    | some b => some (n :: b)
    | none => if n = 0 then none else some [n - 1]
def lessO (left : Int) (l : List Pc) (p : List Int) : Option (List Int) := (lessB p).map fun b => b ++ fillL (left - sumL l b) (l.drop b.length)
theorem sumL_nil (l : List Pc) : sumL l [] = 0 := by cases l <;> rfl
/-- Each is the next one of the one ahead of it. -/
def chainT {α : Type} (f : α → Option α) : List α → Option α → Prop
  | [], _ => True
  | [a], t => f a = t
  | a :: b :: r, t => f a = some b ∧ chainT f (b :: r) t
theorem chainT_app {α : Type} {f : α → Option α} {b : α} {r : List α} {t : Option α} : ∀ {E : List α}, E ≠ [] → chainT f E (some b) → chainT f (b :: r) t → chainT f (E ++ b :: r) t
  | [], h, _, _ => absurd rfl h
  | [a], _, h1, h2 => ⟨h1, h2⟩
  | a :: c :: E, _, h1, h2 => ⟨h1.1, chainT_app (E := c :: E) (by simp) h1.2 h2⟩
theorem chainT_map {α β : Type} {f : α → Option α} {g : β → Option β} {m : α → β} {t : Option α} {t' : Option β} : ∀ {E : List α}, (∀ a ∈ E, ∀ b, f a = some b → g (m a) = some (m b)) → (∀ a ∈ E, f a = t → g (m a) = t') → chainT f E t → chainT g (E.map m) t'
  | [], _, _, _ => trivial
  | [a], _, h2, h => h2 a (by simp) h
  | a :: b :: E, h1, h2, h => ⟨h1 a (by simp) b h.1, chainT_map (E := b :: E) (fun a ha => h1 a (List.mem_cons_of_mem _ ha)) (fun a ha => h2 a (List.mem_cons_of_mem _ ha)) h.2⟩
theorem each_chain : ∀ {l : List Pc} {left : Int}, PosL l → 0 ≤ left → chainT (lessO left l) (eachG l left) none
  | [], left, _, _ => rfl
  | p :: l, left, hp, h0 => by
    have hpp := hp.head
    have key : ∀ m : Nat, (m : Int) ≤ mostF p left → chainT (lessO left (p :: l)) (downG (fun n => (eachG l (left - n * p.len)).map (n :: ·)) (fun _ => false) m) none := by
      have blk : ∀ (n : Nat), (n : Int) ≤ mostF p left → ∀ t, t = (if (n : Int) = 0 then none else some (((n : Int) - 1) :: fillL (left - ((n : Int) - 1) * p.len) l)) → chainT (lessO left (p :: l)) ((eachG l (left - n * p.len)).map ((n : Int) :: ·)) t := by
        intro n hn t ht
        have hm := most_mul hpp hn
        refine chainT_map ?_ ?_ (each_chain (l := l) (left := left - n * p.len) hp.tail (by omega))
        · intro a _ b hab
          unfold lessO at hab ⊢
          cases hb : lessB a with
          | none => rw [hb] at hab; simp at hab
          | some c =>
            rw [hb] at hab
            simp only [Option.map_some, Option.some.injEq] at hab
            subst hab
            simp only [lessB, hb, Option.map_some, List.length_cons, List.drop_succ_cons, sumL, List.cons_append]
            congr 4
            rw [Int.mul_comm]; omega
        · intro a _ ha
          unfold lessO at ha ⊢
          cases hb : lessB a with
          | some c => rw [hb] at ha; simp at ha
          | none =>
            simp only [lessB, hb]
            rw [ht]
            split
            · rfl
            · simp only [Option.map_some, List.length_cons, List.length_nil, List.drop_succ_cons, List.drop_zero, List.singleton_append, sumL]
              congr 3
              rw [Int.mul_comm]; omega
      intro m
      induction m with
      | zero =>
        intro hm
        simp only [downG, Bool.false_eq_true, if_false]
        exact blk 0 hm _ (by simp)
      | succ m ih =>
        intro hm
        have hmm := most_mul hpp (show (m : Int) ≤ mostF p left by omega)
        have hm1 := most_mul hpp hm
        have h2 := ih (by omega)
        obtain ⟨r, hr⟩ := eachG_head (l := l) (left := left - (m : Int) * p.len) hp.tail (by omega)
        obtain ⟨r', hr'⟩ := downG_head (g := fun n => (eachG l (left - n * p.len)).map (n :: ·)) (m := m) (x := (m : Int) :: fillL (left - (m : Int) * p.len) l) (r := r.map ((m : Int) :: ·)) (by rw [hr]; rfl)
        rw [downG, if_neg (by simp), hr']
        rw [hr'] at h2
        obtain ⟨r1, hr1⟩ := eachG_head (l := l) (left := left - ((m : Int) + 1) * p.len) hp.tail (by rw [show ((m + 1 : Nat) : Int) = (m : Int) + 1 by omega] at hm1; omega)
        refine chainT_app ?_ ?_ h2
        · rw [hr1]; simp
        · have := blk (m + 1) hm (some ((m : Int) :: fillL (left - (m : Int) * p.len) l)) (by
            rw [if_neg (by omega), show ((m + 1 : Nat) : Int) - 1 = (m : Int) by omega])
          rw [show ((m + 1 : Nat) : Int) = (m : Int) + 1 by omega] at this
          exact this
    exact key _ (by have := most_nonneg hpp h0; omega)
end Go.Proofs.YtdeaaonppokgkaaGreat.Pat
namespace Go.Proofs.YtdeaaonppokgkaaGreat.Pat
open Go.RowKit
theorem downG_prune {α : Type} {g : Int → List α} {stop : Int → Bool} : ∀ {m : Nat}, (∀ n : Nat, n ≤ m → stop n = true → ∀ n' : Nat, n' ≤ n → g n' = []) → downG g stop m = downG g (fun _ => false) m
  | 0, h => by
    simp only [downG, Bool.false_eq_true, if_false]
    split
    · rename_i hs; exact (h 0 (Nat.le_refl _) hs 0 (Nat.le_refl _)).symm
    · rfl
  | m + 1, h => by
    simp only [downG, Bool.false_eq_true, if_false]
    split
    · rename_i hs
      have h1 := h (m + 1) (Nat.le_refl _) hs
      have e : ∀ k : Nat, k ≤ m → downG g (fun _ => false) k = [] := by
        intro k
        induction k with
        | zero => intro _; simp only [downG, Bool.false_eq_true, if_false]; exact h1 0 (by omega)
        | succ k ih =>
          intro hk
          simp only [downG, Bool.false_eq_true, if_false]
          rw [ih (by omega), List.append_nil]
          exact h1 (k + 1) (by omega)
      rw [e m (Nat.le_refl _), List.append_nil]
      exact (h1 (m + 1) (Nat.le_refl _)).symm
    · rw [downG_prune (fun n hn => h n (by omega))]
theorem downG_congr {α : Type} {g g' : Int → List α} {stop : Int → Bool} : ∀ {m : Nat}, (∀ n : Nat, n ≤ m → g n = g' n) → downG g stop m = downG g' stop m
  | 0, h => by simp only [downG]; rw [show g 0 = g' 0 from h 0 (Nat.le_refl _)]
  | m + 1, h => by
    simp only [downG]
    rw [show g ((m : Int) + 1) = g' ((m : Int) + 1) from h (m + 1) (Nat.le_refl _), downG_congr (g' := g') fun n hn => h n (by omega)]
theorem downG_filter {α β : Type} {g : Int → List α} {F : α → Bool} {f : α → β} : ∀ {m : Nat}, ((downG g (fun _ => false) m).filter F).map f = downG (fun n => ((g n).filter F).map f) (fun _ => false) m
  | 0 => by simp [downG]
  | m + 1 => by simp only [downG, Bool.false_eq_true, if_false, List.filter_append, List.map_append, downG_filter]
theorem fullB_false {r : Int} {p : Pc} {n : Int} (h1 : n < p.cnt) (h2 : p.len ≤ r) : ∀ {d ps : List Pc} {pre s : List Int}, pre.length = d.length → fullB r (d ++ p :: ps) (pre ++ n :: s) = false
  | [], ps, [], s, _ => by simp [fullB, h1, h2]
  | a :: d, ps, b :: pre, s, h => by
    simp only [List.cons_append, fullB]
    rw [fullB_false h1 h2 (by simpa using h), Bool.and_false]
  | [], _, _ :: _, _, h => by simp at h
  | _ :: _, _, [], _, h => by simp at h
theorem sumL_aft : ∀ {l : List Pc} {s : List Int}, PosL l → inB l s = true → sumL l s ≤ aft l
  | [], s, _, _ => by simp [sumL, aft]
  | p :: l, [], hp, _ => by
    simp only [sumL, aft]
    have h1 : 0 ≤ aft l := by
      have := sumL_aft (s := []) hp.tail (by cases l <;> rfl)
      rw [sumL_nil] at this
      exact this
    have := Int.mul_nonneg (show 0 ≤ p.cnt by have := hp.head; omega) (show 0 ≤ p.len by have := hp.head; omega)
    omega
  | p :: l, n :: s, hp, h => by
    simp only [inB, Bool.and_eq_true, decide_eq_true_eq] at h
    simp only [sumL, aft]
    have h1 := sumL_aft hp.tail h.2
    have h2 := Int.mul_le_mul_of_nonneg_left h.1.2 (show 0 ≤ p.len by have := hp.head; omega)
    rw [Int.mul_comm p.cnt]
    omega
theorem allG_eq : ∀ {ps d : List Pc} {pre : List Int} {rest : Int}, PosL ps → pre.length = d.length → 0 ≤ rest →
    allG (d ++ ps) ps pre rest = ((eachG ps rest).filter fun s => fullB (rest - sumL ps s) (d ++ ps) (pre ++ s)).map (pre ++ ·)
  | [], d, pre, rest, _, _, _ => by
    simp only [allG, eachG, List.filter_cons, List.filter_nil, sumL, List.append_nil, Int.sub_zero]
    cases fullB rest d pre <;> simp
  | p :: ps, d, pre, rest, hp, hl, h0 => by
    have hpp := hp.head
    have hM := most_nonneg hpp h0
    rw [allG, eachG, downG_filter]
    have e : ∀ n : Nat, n ≤ (mostF p rest).toNat → allG (d ++ p :: ps) ps (pre ++ [(n : Int)]) (rest - n * p.len) = (((eachG ps (rest - n * p.len)).map ((n : Int) :: ·)).filter fun s => fullB (rest - sumL (p :: ps) s) (d ++ p :: ps) (pre ++ s)).map (pre ++ ·) := by
      intro n hn
      have hm := most_mul hpp (show (n : Int) ≤ mostF p rest by omega)
      have := allG_eq (ps := ps) (d := d ++ [p]) (pre := pre ++ [(n : Int)]) (rest := rest - n * p.len) hp.tail (by simp [hl]) (by omega)
      rw [show d ++ [p] ++ ps = d ++ p :: ps by simp] at this
      rw [this, List.filter_map, List.map_map]
      congr 1
      · funext s; simp
      · refine List.filter_congr fun s _ => ?_
        simp only [Function.comp, sumL, List.append_assoc, List.singleton_append]
        rw [show rest - n * p.len - sumL ps s = rest - (p.len * n + sumL ps s) by rw [Int.mul_comm]; omega]
    rw [downG_congr (g' := fun n => (((eachG ps (rest - n * p.len)).map (n :: ·)).filter fun s => fullB (rest - sumL (p :: ps) s) (d ++ p :: ps) (pre ++ s)).map (pre ++ ·)) e]
    refine downG_prune fun n hn hs n' hn' => ?_
    simp only [stopF, Bool.and_eq_true, decide_eq_true_eq] at hs
    rw [List.map_eq_nil_iff, List.filter_eq_nil_iff]
    intro q hq
    obtain ⟨s, hs1, rfl⟩ := List.mem_map.1 hq
    have hm := most_mul hpp (show (n' : Int) ≤ mostF p rest by omega)
    obtain ⟨_, q2, _⟩ := (mem_eachG hp.tail (by omega)).1 hs1
    have q3 := sumL_aft hp.tail q2
    have hcnt : mostF p rest ≤ p.cnt := ((most_iff hpp).1 (Int.le_refl _)).1
    have hmul : (n' : Int) * p.len ≤ n * p.len := Int.mul_le_mul_of_nonneg_right (by omega) (by omega)
    rw [fullB_false (by omega) ?_ hl]
    · simp
    · simp only [sumL]
      rw [Int.mul_comm p.len]
      omega
/-- How many patterns there can be. -/
def prodL (length : Int) : List Pc → Int
  | [] => 1
  | p :: l => (mostF p length + 1) * prodL length l
theorem prodL_pos : ∀ {l : List Pc} {length : Int}, PosL l → 0 ≤ length → 1 ≤ prodL length l
  | [], _, _, _ => by simp [prodL]
  | p :: l, length, hp, h0 => by
    have h1 := prodL_pos hp.tail h0
    have h2 := most_nonneg hp.head h0
    simp only [prodL]
    have := Int.mul_le_mul (show 1 ≤ mostF p length + 1 by omega) h1 (by omega) (by omega)
    omega
theorem eachG_count : ∀ {l : List Pc} {left length : Int}, PosL l → 0 ≤ left → left ≤ length → ((eachG l left).length : Int) ≤ prodL length l
  | [], _, _, _, _, _ => by simp [eachG, prodL]
  | p :: l, left, length, hp, h0, hle => by
    have hpp := hp.head
    have hM := most_nonneg hpp h0
    have key : ∀ m : Nat, (m : Int) ≤ mostF p left → ((downG (fun n => (eachG l (left - n * p.len)).map (n :: ·)) (fun _ => false) m).length : Int) ≤ (m + 1) * prodL length l := by
      intro m
      induction m with
      | zero =>
        intro hm
        have := eachG_count (l := l) (left := left - 0 * p.len) (length := length) hp.tail (by omega) (by omega)
        simpa [downG] using this
      | succ m ih =>
        intro hm
        have h1 := ih (by omega)
        have h2 := most_mul hpp hm
        have h3 : 0 ≤ ((m + 1 : Nat) : Int) * p.len := Int.mul_nonneg (by omega) (by omega)
        have := eachG_count (l := l) (left := left - ((m + 1 : Nat) : Int) * p.len) (length := length) hp.tail (by omega) (by omega)
        rw [downG, if_neg (by simp), List.length_append, List.length_map]
        rw [show ((m + 1 : Nat) : Int) = (m : Int) + 1 by omega] at this ⊢
        rw [Int.add_mul ((m : Int) + 1) 1, Int.one_mul]
        omega
    rw [eachG, prodL]
    refine Int.le_trans (key _ (by omega)) ?_
    have hmono : mostF p left ≤ mostF p length := by
      have h := (most_iff hpp).1 (Int.le_refl (mostF p left))
      exact (most_iff hpp).2 ⟨h.1, by omega⟩
    have := prodL_pos (l := l) (length := length) hp.tail (by omega)
    exact Int.mul_le_mul_of_nonneg_right (by omega) (by omega)
end Go.Proofs.YtdeaaonppokgkaaGreat.Pat
