/- LorryMore: plain facts. -/
import Derived.Test.YtdinkpefoljigaaAS
set_option maxRecDepth 100000
set_option linter.unusedSimpArgs false
set_option linter.unusedVariables false
namespace Go.Proofs.Ytdinkpefoljigaa
open Go.RowKit
def okB (b : Bun) : Bool := nameB b.tag && (nameB b.mark && (decide (1 ≤ b.count) && (decide (b.count ≤ 1000) && (decide (0 ≤ b.mass) && decide (b.mass ≤ 1099511627776)))))
theorem seen_iff {l : List Bun} {k : Nat} (hk : k ≤ l.length) (s : ByteArray) : seenB l k s = true ↔ ∃ j, j < k ∧ s = (ix l j).tag := by
  unfold seenB
  rw [List.any_eq_true]
  constructor
  · rintro ⟨b, hb, e⟩
    obtain ⟨j, hj, rfl⟩ := List.mem_iff_getElem.1 hb
    have hjk : j < k := by simp at hj; omega
    refine ⟨j, hjk, ?_⟩
    rw [List.getElem_take, ← ix_eq (by omega)] at e
    simpa using e
  · rintro ⟨j, hj, e⟩
    refine ⟨ix l j, ?_, by simpa using e⟩
    rw [ix_eq (by omega)]
    exact List.mem_iff_getElem.2 ⟨j, by simp; omega, by simp⟩
theorem okA_iff {l : List Bun} {k : Nat} (hk : k < l.length) : okA l k = true ↔ okB (ix l k) = true ∧ ∀ j, j < k → (ix l k).tag ≠ (ix l j).tag := by
  have hs := seen_iff (l := l) (k := k) (by omega) (ix l k).tag
  have hs2 : (!seenB l k (ix l k).tag) = true ↔ ∀ j, j < k → (ix l k).tag ≠ (ix l j).tag := by
    constructor
    · intro h j hj e
      have := hs.2 ⟨j, hj, e⟩
      rw [this] at h; cases h
    · intro h
      cases hx : seenB l k (ix l k).tag with
      | false => rfl
      | true =>
        obtain ⟨j, hj, e⟩ := hs.1 hx
        exact absurd e (h j hj)
  unfold okA okB
  simp only [Bool.and_eq_true]
  rw [hs2]
  constructor
  · rintro ⟨a, b, c, d⟩
    exact ⟨⟨a, b, d⟩, c⟩
  · rintro ⟨⟨a, b, d⟩, c⟩
    exact ⟨a, b, c, d⟩
theorem vB_rev {l : List Bun} (h : vB l = true) : vB l.reverse = true := by
  obtain ⟨h1, h2⟩ := vB_yes.1 h
  refine vB_yes.2 ⟨by simpa using h1, fun k hk => ?_⟩
  have hk' : k < l.length := by simpa using hk
  refine (okA_iff hk).2 ⟨?_, fun j hj => ?_⟩
  · rw [ix_revB hk']
    exact ((okA_iff (by omega)).1 (h2 _ (by omega))).1
  · rw [ix_revB hk', ix_revB (by omega)]
    exact fun e => ((okA_iff (by omega)).1 (h2 (l.length - 1 - j) (by omega))).2 (l.length - 1 - k) (by omega) e.symm
theorem strOk_rev {l : List Bun} (h : strOk l) : strOk l.reverse := fun b hb => h b (List.mem_reverse.1 hb)
theorem strOk_app {l : List Bun} {x : Bun} (h : strOk l) (hx : x.tag.size ≤ 9223372036854775807 ∧ x.mark.size ≤ 9223372036854775807) : strOk (l ++ [x]) := fun b hb => by
  rcases List.mem_append.1 hb with hb | hb
  · exact h b hb
  · simp only [List.mem_singleton] at hb
    subst hb; exact hx
theorem errG_zero {l : List Bun} {most : Int} (hv : vB l = true) (h1 : 1 ≤ most) (h2 : most ≤ 1099511627776) (hm : ∀ k, k < l.length → (ix l k).mass ≤ most) : errG l most = 0 := by
  unfold errG
  rw [if_neg (by simp [hv]), if_neg (by omega), if_neg]
  intro h
  obtain ⟨b, hb, e⟩ := List.any_eq_true.1 h
  obtain ⟨k, hk, rfl⟩ := List.mem_iff_getElem.1 hb
  rw [← ix_eq hk] at e
  have := hm k hk
  simp [heavyB] at e
  omega
theorem optL_rev {l : List Bun} {most : Int} (hv : vB l = true) (hm : ∀ k, k < l.length → (ix l k).mass ≤ most) : optL l.reverse most = optL l most := by
  have hp : (mL l.reverse 0).Perm (mL l 0) := by
    unfold mL
    rw [List.drop_zero, List.drop_zero]
    exact (List.reverse_perm l).map _
  exact optF_perm hp (.refl _) (fun w hw => mL_range hv hm w (hp.mem_iff.1 hw)) (fun m hm => by cases hm)
theorem optL_lim {l : List Bun} {most most' : Int} (hv : vB l = true) (hm : ∀ k, k < l.length → (ix l k).mass ≤ most) (h : most ≤ most') : optL l most' ≤ optL l most := optF_lim h (mL_range hv hm)
theorem optL_app {l : List Bun} {x : Bun} {most : Int} (hv : vB l = true) (hm : ∀ k, k < l.length → (ix l k).mass ≤ most) (hx : 0 ≤ x.mass ∧ x.mass ≤ most) : optL l most ≤ optL (l ++ [x]) most ∧ optL (l ++ [x]) most ≤ optL l most + 1 := by
  have hp : (mL (l ++ [x]) 0).Perm (x.mass :: mL l 0) := by
    unfold mL
    rw [List.drop_zero, List.drop_zero, List.map_append, List.map_cons, List.map_nil]
    exact List.perm_append_comm
  have hr : ∀ w ∈ x.mass :: mL l 0, 0 ≤ w ∧ w ≤ most := fun w hw => by
    rcases List.mem_cons.1 hw with rfl | hw
    · exact hx
    · exact mL_range hv hm w hw
  have e : optL (l ++ [x]) most = optF most (x.mass :: mL l 0) [] := optF_perm hp (.refl _) (fun w hw => hr w (hp.mem_iff.1 hw)) (fun m hm => by cases hm)
  rw [e]
  exact optF_extra hr
end Go.Proofs.Ytdinkpefoljigaa
