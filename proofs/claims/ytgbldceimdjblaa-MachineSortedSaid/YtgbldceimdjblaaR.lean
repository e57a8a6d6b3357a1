/- Plain facts: how an order runs. -/
import Derived.Test.YtgbldceimdjblaaQ
set_option maxRecDepth 100000
set_option linter.unusedSimpArgs false
set_option linter.unusedVariables false
namespace Go.Proofs.Ytgbldceimdjblaa
theorem pigeon : ∀ (n : Nat) (f : Nat → Nat), (∀ j, j < n → f j < n) → (∀ j i, j < n → i < j → f i ≠ f j) → ∀ v, v < n → ∃ j, j < n ∧ f j = v
  | 0, _, _, _, v, h => by omega
  | n + 1, f, h1, h2, v, hv => by
    by_cases hn : f n = n
    · by_cases e : v = n
      · exact ⟨n, by omega, by omega⟩
      · obtain ⟨j, j1, j2⟩ := pigeon n f (fun j hj => by
          have a := h1 j (by omega)
          have b := h2 n j (by omega) hj
          omega) (fun j i hj hi => h2 j i (by omega) hi) v (by omega)
        exact ⟨j, by omega, j2⟩
    · have hfn := h1 n (by omega)
      have key := pigeon n (fun j => if f j = n then f n else f j) (fun j hj => by
        have a := h1 j (by omega)
        by_cases e : f j = n
        · simp only [e, if_true]; omega
        · simp only [e, if_false]; omega) (fun j i hj hi => by
        have a := h2 j i (by omega) hi
        have b := h2 n j (by omega) hj
        have c := h2 n i (by omega) (by omega)
        by_cases e : f j = n <;> by_cases e2 : f i = n
        · omega
        · simp only [e, e2, if_true, if_false]; omega
        · simp only [e, e2, if_true, if_false]; omega
        · simp only [e, e2, if_false]; omega)
      by_cases hex : ∃ j, j < n ∧ f j = n
      · by_cases e : v = n
        · obtain ⟨j, j1, j2⟩ := hex
          exact ⟨j, by omega, by omega⟩
        · obtain ⟨j, j1, j2⟩ := key v (by omega)
          by_cases e2 : f j = n
          · simp only [e2, if_true] at j2
            exact ⟨n, by omega, j2⟩
          · simp only [e2, if_false] at j2
            exact ⟨j, by omega, j2⟩
      · obtain ⟨j, j1, j2⟩ := key (f n) (by omega)
        have e2 : f j ≠ n := fun e => hex ⟨j, j1, e⟩
        simp only [e2, if_false] at j2
        exact absurd j2 (h2 n j (by omega) j1)
/-- The job at a place of an order. -/
def jo (o : List Int) (j : Nat) : Nat := (ix o j).toNat
structure RunOk (l : List Jb) (o : List Int) (s : Rn) (t : Nat) : Prop where
  one : ∀ j, j < t → 0 ≤ s.cut (jo o j) ∧ s.cut (jo o j) + (ix l (jo o j)).cut ≤ s.at_ ∧ s.cut (jo o j) + (ix l (jo o j)).cut ≤ s.bent (jo o j) ∧ s.bent (jo o j) + (ix l (jo o j)).bend ≤ s.fin
  two : ∀ j i, j < t → i < j → s.cut (jo o i) + (ix l (jo o i)).cut ≤ s.cut (jo o j) ∧ s.bent (jo o i) + (ix l (jo o i)).bend ≤ s.bent (jo o j)
  at0 : 0 ≤ s.at_
  fin0 : 0 ≤ s.fin
  none : t = 0 → s.fin = 0
  last : ∀ j, t = j + 1 → s.fin = s.bent (jo o j) + (ix l (jo o j)).bend
theorem run_ok {l : List Jb} {o : List Int} (hv : validB l = true) (ho : ∀ j, j < o.length → 0 ≤ ix o j ∧ ix o j < l.length) (hd : ∀ j i, j < o.length → i < j → ix o i ≠ ix o j) : ∀ t, t ≤ o.length → RunOk l o (runR l (o.take t)) t
  | 0, _ => ⟨fun j h => by omega, fun j i h => by omega, by simp [runR, run0], by simp [runR, run0], fun _ => by simp [runR, run0], fun j h => by omega⟩
  | t + 1, h => by
    have ih := run_ok hv ho hd t (by omega)
    have hb := validB_at hv (show jo o t < l.length by have := ho t (by omega); unfold jo; omega)
    have hne : ∀ j, j < t → jo o j ≠ jo o t := fun j hj => by
      have a := ho j (by omega)
      have b := ho t (by omega)
      have c := hd t j (by omega) hj
      unfold jo
      omega
    rw [run_step (by omega)]
    have e : (ix o t).toNat = jo o t := rfl
    have c0 : ∀ j, j < t → (stepR l (runR l (o.take t)) (ix o t)).cut (jo o j) = (runR l (o.take t)).cut (jo o j) := fun j hj => by simp only [stepR, e, setF]; rw [if_neg (hne j hj)]
    have b0 : ∀ j, j < t → (stepR l (runR l (o.take t)) (ix o t)).bent (jo o j) = (runR l (o.take t)).bent (jo o j) := fun j hj => by simp only [stepR, e, setF]; rw [if_neg (hne j hj)]
    have c1 : (stepR l (runR l (o.take t)) (ix o t)).cut (jo o t) = (runR l (o.take t)).at_ := by simp only [stepR, e, setF, if_true]
    have b1 : (stepR l (runR l (o.take t)) (ix o t)).bent (jo o t) = max ((runR l (o.take t)).at_ + (ix l (jo o t)).cut) (runR l (o.take t)).fin := by simp only [stepR, e, setF, if_true]
    have a1 : (stepR l (runR l (o.take t)) (ix o t)).at_ = (runR l (o.take t)).at_ + (ix l (jo o t)).cut := rfl
    have f1 : (stepR l (runR l (o.take t)) (ix o t)).fin = max ((runR l (o.take t)).at_ + (ix l (jo o t)).cut) (runR l (o.take t)).fin + (ix l (jo o t)).bend := rfl
    have i1 := ih.at0
    have i2 := ih.fin0
    refine ⟨fun j hj => ?_, fun j i hj hi => ?_, by rw [a1]; omega, by rw [f1]; omega, fun h => by omega, fun j hj => ?_⟩
    · by_cases ej : j = t
      · subst ej
        rw [c1, b1, a1, f1]
        omega
      · have := ih.one j (by omega)
        rw [c0 j (by omega), b0 j (by omega), a1, f1]
        omega
    · by_cases ej : j = t
      · subst ej
        have := ih.one i hi
        rw [c0 i hi, b0 i hi, c1, b1]
        omega
      · have := ih.two j i (by omega) hi
        rw [c0 i (by omega), b0 i (by omega), c0 j (by omega), b0 j (by omega)]
        exact this
    · obtain rfl : j = t := by omega
      rw [b1, f1]
/-- When the last job is bent. -/
def endN (l : List Jb) (s : Rn) : Nat → Int
  | 0 => 0
  | k + 1 => max (endN l s k) (s.bent k + (ix l k).bend)
theorem endN_ge (l : List Jb) (s : Rn) : ∀ n i, i < n → s.bent i + (ix l i).bend ≤ endN l s n
  | n + 1, i, h => by
    simp only [endN]
    by_cases e : i = n
    · subst e; omega
    · have := endN_ge l s n i (by omega)
      omega
theorem endN_le (l : List Jb) (s : Rn) {F : Int} (h0 : 0 ≤ F) : ∀ n, (∀ i, i < n → s.bent i + (ix l i).bend ≤ F) → endN l s n ≤ F
  | 0, _ => h0
  | n + 1, h => by
    have h1 := endN_le l s h0 n fun i hi => h i (by omega)
    have h2 := h n (by omega)
    simp only [endN]
    omega
/-- The law's facts of an order. -/
structure RunF (l : List Jb) (s : Rn) : Prop where
  one : ∀ i, i < l.length → 0 ≤ s.cut i ∧ s.cut i + (ix l i).cut ≤ s.bent i ∧ s.bent i + (ix l i).bend ≤ s.fin
  two : ∀ i k, i < l.length → k < i → ¬(s.cut i < s.cut k + (ix l k).cut ∧ s.cut k < s.cut i + (ix l i).cut) ∧ ¬(s.bent i < s.bent k + (ix l k).bend ∧ s.bent k < s.bent i + (ix l i).bend)
  fin : endN l s l.length = s.fin
theorem run_f {l : List Jb} {o : List Int} (hv : validB l = true) (hl : o.length = l.length) (ho : ∀ j, j < o.length → 0 ≤ ix o j ∧ ix o j < l.length) (hd : ∀ j i, j < o.length → i < j → ix o i ≠ ix o j) : RunF l (runR l o) := by
  have h := run_ok hv ho hd o.length (Nat.le_refl _)
  rw [List.take_length] at h
  have sur := pigeon l.length (jo o) (fun j hj => by have := ho j (by omega); unfold jo; omega) (fun j i hj hi => by
    have a := ho j (by omega)
    have b := ho i (by omega)
    have c := hd j i (by omega) hi
    unfold jo; omega)
  have h1 : ∀ i, i < l.length → 0 ≤ (runR l o).cut i ∧ (runR l o).cut i + (ix l i).cut ≤ (runR l o).bent i ∧ (runR l o).bent i + (ix l i).bend ≤ (runR l o).fin := fun i hi => by
    obtain ⟨j, j1, rfl⟩ := sur i hi
    have := h.one j (by omega)
    omega
  refine ⟨h1, fun i k hi hk => ?_, ?_⟩
  · obtain ⟨j, j1, rfl⟩ := sur i hi
    obtain ⟨j', k1, rfl⟩ := sur k (by omega)
    rcases Nat.lt_trichotomy j j' with e | e | e
    · have := h.two j' j (by omega) e
      omega
    · subst e; omega
    · have := h.two j j' (by omega) e
      omega
  · have hle := endN_le l (runR l o) h.fin0 l.length fun i hi => (h1 i hi).2.2
    by_cases e : l.length = 0
    · rw [h.none (by omega), e]; rfl
    · have hlast := h.last (o.length - 1) (by omega)
      have hge := endN_ge l (runR l o) l.length (jo o (o.length - 1)) (by have := ho (o.length - 1) (by omega); unfold jo; omega)
      omega
end Go.Proofs.Ytgbldceimdjblaa
