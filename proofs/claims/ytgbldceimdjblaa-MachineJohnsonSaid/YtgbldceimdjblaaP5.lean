/- For every list of jobs MachineJohnson returns true, and leaves its argument as it was. No conditions. -/
import Derived.Test.YtgbldceimdjblaaAA
import Derived.Test.YtgbldceimdjblaaIn
import Derived.Lib.SmallJoins
import Derived.Deep.Strs
import Derived.Carry
import Derived.Test.YtgbldceimdjblaaRows
set_option linter.unusedSimpArgs false
set_option linter.unusedVariables false
namespace Go.Proofs.Ytgbldceimdjblaa
open Go.ChangeShapes Go.WideShapes Go.ChangeAt Go.RowKit Go.Joins
theorem Try.own : ownKnob Try.prog.godebug = none := by kernel_rfl
theorem Try.laidOut : laidOutB Try.prog = true := by kernel_rfl
theorem Try.cells43 : Try.prog.cellsOf 43 = 3 := by kernel_rfl
section
variable {H : Type} {enc : TypeId × Value → H} {W : World} {base b0 : Nat} {held : Bool} {r : Reach} {v : Value} {d : DataW H} {p : List MemPlace}
set_option maxRecDepth 100000 in
theorem open_jobs (hv : Value.okWide Try.prog W r b0 22 v) (h : DataW.Trod enc Try.prog W base (fun _ => true) held 22 v d p) :
    ∃ (A : Option Addr) (l : List Jb) (cap : Nat) (L : Option (Nat × Nat)), v = .slice A l.length cap ∧ (∀ x ∈ l, isI64 x.cut ∧ isI64 x.bend) ∧ RowIn W A l.length cap 3 L (fun k => cJb (ix l k)) := by
  obtain ⟨A, n, cap, L, G, hv, hQ, hr⟩ := open_row Try.underlying22 Try.cells43 (by omega) hv h (fun cs => ∃ x : Jb, cs = [.string x.mark, .int .i64 x.cut, .int .i64 x.bend] ∧ isI64 x.cut ∧ isI64 x.bend) fun fuel cs x hx hl => by
    obtain ⟨_, _, _, m, _, _, i0, i1, i2⟩ := Go.Deep.trod_struct3 Try.underlying43 hx
    obtain ⟨s, e0, _, _⟩ := DataW.trod_string Try.underlying9 i0
    obtain ⟨a, e1, _, w1⟩ := DataW.trod_int Try.underlying3 i1
    obtain ⟨b, e2, _, w2⟩ := DataW.trod_int Try.underlying3 i2
    rw [show Try.prog.cellsOf 9 = 1 by kernel_rfl] at e0
    rw [show Try.prog.cellsOf 3 = 1 by kernel_rfl] at e1 e2
    match cs, hl with
    | [u, v, w], _ =>
      simp at e0 e1 e2
      subst e0 e1 e2
      exact ⟨⟨s, a, b⟩, rfl, i64_wf w1, i64_wf w2⟩
  obtain ⟨l, rfl, hl⟩ := list_of hQ
  refine ⟨A, l, cap, L, hv, fun x hx => ?_, hr.as fun k hk => by rw [(hl k hk).1]; rfl⟩
  obtain ⟨k, hk, rfl⟩ := List.getElem_of_mem hx
  have := (hl k hk).2
  rwa [ix_eq hk] at this
set_option maxRecDepth 100000 in
theorem open_job (hv : Value.okWide Try.prog W r b0 43 v) (h : DataW.Trod enc Try.prog W base (fun _ => true) held 43 v d p) :
    ∃ x : Jb, v = .agg #[.string x.mark, .int .i64 x.cut, .int .i64 x.bend] ∧ isI64 x.cut ∧ isI64 x.bend := by
  obtain ⟨c0, c1, c2, y0, y1, y2, m, rfl, _, _, h0, h1, h2⟩ := open_agg3 Try.underlying43 (by kernel_rfl) Try.cells43 hv h
  obtain ⟨s, e0, _, _⟩ := DataW.trod_string Try.underlying9 h0
  obtain ⟨a, e1, _, w1⟩ := DataW.trod_int Try.underlying3 h1
  obtain ⟨b, e2, _, w2⟩ := DataW.trod_int Try.underlying3 h2
  simp at e0 e1 e2
  subst e0 e1 e2
  exact ⟨⟨s, a, b⟩, rfl, i64_wf w1, i64_wf w2⟩
theorem ok_job {β : Bs} (x : Jb) : Ok β (.a (cJb x)) (.agg #[.string x.mark, .int .i64 x.cut, .int .i64 x.bend]) := by
  simp [Ok, OkL, cJb]
end
set_option maxRecDepth 100000 in
theorem john3_lifted (os : Os) (started : os.Started) (H : Type) (enc : TypeId × Value → H) :
    ReturnsInHanded {} Try.checked os 3 .any (Rows.machineJohnsonSpec.pre6 enc Try.prog Try.f3 Rows.machineJohnsonRow.domain false) (Rows.machineJohnsonSpec.post enc Try.prog Try.f3 false true false false) := by
  refine returnsInHanded_of_change (C := Try.checked) Try.own started (by kernel_rfl) Try.func3
    (ChangeSpec.witness6 (enc := enc) (C := Try.checked) false ⟨#[], #[.slice none 0 0], []⟩ 8 (by kernel_rfl) (by kernel_rfl) (by kernel_rfl) (by kernel_rfl)) ?_
  intro W base args ds gs before hval0 hW hcnd _
  have hval : ∀ (j : Nat) t v, Try.f3.params[j]? = some t → args[j]? = some v → Value.okWide Try.prog W .any base t v := hval0
  have hW' := hW
  obtain ⟨p, q, hA0, hV, rfl, hfz, hnd⟩ := hW
  have hA : DataW.TrodAll enc Try.prog W 0 (fun _ => true) true Try.f3.params.toList args.toList ds p := hA0
  rw [Try.params3] at hA hval
  obtain ⟨v0, d0, rfl, rfl, h0⟩ := trodAll_one hA
  obtain ⟨rfl, rfl⟩ := trodVars_none hV
  obtain ⟨A0, l, c0, L0, rfl, lr, hr0⟩ := open_jobs (hval 0 22 v0 rfl rfl) h0
  refine (run_of_sp (johnlaw_sp l c0 hr0.le hr0.n_le) rfl (fun _ _ h => h) (inv_in (rowsIn_cons hr0 rowsIn_nil)) (okL_cons_mk (ok_in hr0 rfl) okL_nil_mk)).mono fun e W' ⟨he, hb⟩ => ?_
  subst he
  exact ⟨_, rfl, law_end (P := Try.prog) (B := 4) hW' rfl rfl Try.underlying4 Try.laidOut (by kernel_rfl) rfl hb⟩
theorem john3_holds : Rows.MachineJohnsonSaid :=
  OpenClaim.holds_of_wide 3 Try.f3 rfl rfl rfl rfl rfl rfl rfl ⟨rfl, rfl, rfl, rfl, rfl⟩ rfl rfl rfl rfl rfl (by kernel_rfl) Try.func3 (by kernel_rfl)
    (of_decide_eq_true (by kernel_rfl)) (by unfold Func.isWrapper; first | (rw [if_pos (by decide +kernel)]; kernel_rfl) | (rw [if_neg (by decide +kernel)]; exact ⟨rfl, rfl⟩))
    (fun os started H enc _ => john3_lifted os started H enc)
#print axioms john3_holds
end Go.Proofs.Ytgbldceimdjblaa
