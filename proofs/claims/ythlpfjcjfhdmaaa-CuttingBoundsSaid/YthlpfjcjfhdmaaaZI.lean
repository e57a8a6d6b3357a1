/- CuttingLeast: plain facts. -/
import Derived.Test.YthlpfjcjfhdmaaaZF
import Derived.Test.YthlpfjcjfhdmaaaZH
set_option maxRecDepth 100000
set_option linter.unusedSimpArgs false
set_option linter.unusedVariables false
namespace Go.Proofs.Ythlpfjcjfhdmaaa
open Go.RowKit
theorem lst_right {lim : Int} {l : List Pc} (he : lstE lim l = 0) : rightB (lotS lim) l (lstR lim l) = true ∧ timesT (lstR lim l) (lstR lim l).length = (lstB lim l).length := by
  obtain ⟨hg, hc⟩ := lst_ok he
  obtain ⟨ho, h1, h2, h3⟩ := givE_0 hg
  refine ⟨?_, timesT_pat _⟩
  by_cases h0 : 0 < cntL l
  · obtain ⟨g, _, _⟩ := lst_good he h0
    refine bars_right (visOk_bars g ?_)
    rw [lst_len he]
    have h4 := optF_le_len (wsO_range ho h3)
    have h5 := wsO_len ho
    unfold optO
    omega
  · have e1 : lstB lim l = [] := if_neg (by omega)
    have e2 : l = [] := by
      have := (cntT_range ho l.length (Nat.le_refl _)).1
      have h6 : cntT l l.length = cntL l := rfl
      exact List.length_eq_zero_iff.1 (by omega)
    have e3 : lstR lim l = [] := by rw [lstR, e1]; rfl
    rw [e3, e2]
    refine right_yes.2 ⟨rfl, fun k hk => by simp at hk, fun i hi => by simp at hi, fun j hj => ?_⟩
    obtain rfl : j = 0 := by simp [lotS] at hj; omega
    exact .inl (show (-1 : Int) < 0 by decide)
theorem right_small {s l : List Pc} {p : List Pt} (ho : orderB l = true) (h : rightB s l p = true) : p.length ≤ 1000 ∧ ∀ k, k < p.length → (ix p k).ps.length ≤ 200 := by
  have := order_len ho
  refine ⟨plan_len (right_yes.1 h).1, fun k hk => ?_⟩
  have := (fit_at ((right_yes.1 h).2.1 k hk)).1
  omega
theorem right_plan {s l : List Pc} {p : List Pt} (h : rightB s l p = true) : planB s p = true := (right_yes.1 h).1
theorem lst_10 {lim : Int} {l : List Pc} (hg : givE lim l = 0) (h : 10 < cntL l) : lstE lim l = 6 ∧ lstB lim l = [] ∧ lstR lim l = [] := by
  have e : lstE lim l = 6 := by rw [lstE, if_neg (by simp [hg]), if_pos h]
  have e1 : lstB lim l = [] := if_neg (by omega)
  exact ⟨e, e1, by rw [lstR, e1]; rfl⟩
theorem lst_no {lim : Int} {l : List Pc} (hg : givE lim l ≠ 0) : lstE lim l = givE lim l ∧ lstB lim l = [] ∧ lstR lim l = [] := by
  have e : lstE lim l = givE lim l := if_pos hg
  have e1 : lstB lim l = [] := if_neg (by omega)
  exact ⟨e, e1, by rw [lstR, e1]; rfl⟩
theorem lst_yes {lim : Int} {l : List Pc} (hg : givE lim l = 0) (h : cntL l ≤ 10) : lstE lim l = 0 := by
  rw [lstE, if_neg (by simp [hg]), if_neg (by omega)]
theorem greedy_lots {lim : Int} {l : List Pc} (hg : givE lim l = 0) (h : cntL l ≤ 1000) : gErr (lotS lim) l = 0 := by
  obtain ⟨ho, h1, h2, h3⟩ := givE_0 hg
  have hs := stB_lots h1 h2
  unfold gErr
  rw [if_neg (by simp [hs, ho]), if_neg (by omega), if_neg]
  exact no_gap (k := 0) (show 0 < 1 by decide) (show (-1 : Int) < 0 by decide) fun i hi => h3 i hi
end Go.Proofs.Ythlpfjcjfhdmaaa
