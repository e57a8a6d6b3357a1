/- Plain: what the phases' ends say of a program. -/
import Derived.Test.YtdeaaonppokgkaaM
set_option maxRecDepth 100000
set_option linter.unusedSimpArgs false
set_option linter.unusedVariables false
namespace Go.Proofs.Ytdeaaonppokgkaa
open Go.RowKit Lp
/-- What a last table says. -/
structure Last (p : Pm) (s : Tabl) : Prop where
  feas : Feas (tA p) p.m p.R s
  noart : NoArt p.m p.F p.R s
  rc : ∀ j, j < p.F → 0 ≤ rc p.m (cqP p) s j
def valP (p : Pm) (s : Tabl) : Int := wsum p.m (cqP p) s p.R
def mulP (p : Pm) (s : Tabl) (k : Nat) : Int := mult (sgn p) p.F p.m (cqP p) s k
/-- A program that has no least value. -/
def Free (p : Pm) : Prop := (∃ X d, Prim (lpP p) X d) ∧ ∃ W, Ray (lpP p) W
/-- Multipliers that refute. -/
def Gap (p : Pm) (Y : Nat → Int) : Prop := Dual (lpP p) (fun _ => 0) Y ∧ 0 < dval (lpP p) Y
def gapY (p : Pm) (s : Tabl) (k : Nat) : Int := mult (sgn p) p.F p.m (artC p.F p.m) s k
theorem phE_neg {m F : Nat} {c : Nat → Int} {s : Tabl} (h : phE m F c s < 0) : ∀ j, j < F → 0 ≤ rc m c s j := fun j hj => by
  rcases ent_spec (p := fun j => decide (rc m c s j < 0)) (F := F) with ⟨_, q⟩ | ⟨e, _, q, _⟩
  · have := q j hj
    simpa using this
  · unfold phE at h
    omega
section
variable {p : Pm}
theorem gap_of (hp : PmOk p) {s : Tabl} (hE : phE p.m p.F (artC p.F p.m) s < 0) (hf : Feas (tA p) p.m p.R s) (hs : ¬ sm p.m (fun k => if p.F ≤ s.b k then s.T k p.R else 0) ≤ 0) : Gap p (gapY p s) := by
  obtain ⟨g, ht⟩ := hf.tab
  have hF : p.n ≤ p.F := (form hp).nF
  have hz : ∀ j, j < p.F → artC p.F p.m j = 0 := fun j hj => by unfold artC; rw [if_neg (by omega)]
  obtain ⟨h1, h2⟩ := (form hp).dual ht (artC p.F p.m) (fun j _ hj => hz j hj) (phE_neg hE)
  refine ⟨⟨fun j hj => ?_, h1.sgn⟩, ?_⟩
  · have h3 := h1.col j hj
    have hj' : j < p.n := hj
    rw [hz j (by omega), Int.zero_mul] at h3
    exact h3
  · have h4 : dval (lpP p) (gapY p s) = wsum p.m (artC p.F p.m) s p.R := h2
    rw [h4, art_sum hf.bas]
    exact Int.not_le.1 hs
theorem cq_hi (hp : PmOk p) : ∀ j, p.n ≤ j → cqP p j = 0 := fun j hj => by unfold cqP; rw [if_neg (by omega)]
theorem cq_lo : ∀ j, j < p.n → cqP p j = p.co j := fun j hj => by unfold cqP; rw [if_pos hj]
theorem free_of (hp : PmOk p) {s : Tabl} (hD : Driven (tA p) p.m p.F s p.m) (hE : ¬ phE p.m p.F (cqP p) s < 0) (hN : ¬ Goes p.m p.R p.F (cqP p) s) : Free p := by
  obtain ⟨g, ht⟩ := hD.feas.tab
  rcases ent_spec (p := fun j => decide (rc p.m (cqP p) s j < 0)) (F := p.F) with ⟨q1, _⟩ | ⟨e, q1, q2, q3, _⟩
  · unfold phE at hE; omega
  have hee : (phE p.m p.F (cqP p) s).toNat = e := by unfold phE; rw [q2]; rfl
  have hno : ∀ k, k < p.m → s.T k e ≤ 0 := by
    rcases lv_spec (R := p.R) (s := s) (e := e) (q := p.m) fun i k hi hk => ht.inj hi hk with ⟨_, q6⟩ | ⟨r, _, q6, _⟩
    · exact q6
    · refine absurd ⟨by omega, ?_⟩ hN
      unfold phR
      rw [hee, q6]
      omega
  exact ⟨⟨_, _, (form hp).prim hD.feas hD.noart⟩, _, (form hp).ray hD.feas (fun k hk hb j hj => hD.stuck k hk hk hb j hj) (fun j hj => cq_lo j hj) (fun j hj _ => cq_hi hp j hj) q1 (show rc p.m (cqP p) s e < 0 by simpa using q3) hno⟩
theorem last_of {s : Tabl} (hD : Driven (tA p) p.m p.F s p.m) (hE : phE p.m p.F (cqP p) s < 0) : Last p s := ⟨hD.feas, hD.noart, phE_neg hE⟩
end
end Go.Proofs.Ytdeaaonppokgkaa
