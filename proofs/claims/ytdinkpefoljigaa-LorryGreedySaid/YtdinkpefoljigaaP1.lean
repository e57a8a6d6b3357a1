/- For every list of bundles and every number LorryGreedy returns true, and leaves its arguments as they were. No conditions. -/
import Derived.Test.YtdinkpefoljigaaW
import Derived.Test.YtdinkpefoljigaaIn
import Derived.Lib.SmallJoins
import Derived.Deep.Strs
import Derived.Carry
import Derived.Test.YtdinkpefoljigaaRows
set_option linter.unusedSimpArgs false
set_option linter.unusedVariables false
namespace Go.Proofs.Ytdinkpefoljigaa
open Go.ChangeShapes Go.WideShapes Go.ChangeAt Go.RowKit Go.Joins
theorem Try.own : ownKnob Try.prog.godebug = none := by kernel_rfl
theorem Try.laidOut : laidOutB Try.prog = true := by kernel_rfl
theorem Try.cells48 : Try.prog.cellsOf 48 = 4 := by kernel_rfl
section
variable {H : Type} {enc : TypeId × Value → H} {W : World} {base b0 : Nat} {held : Bool} {r : Reach} {v : Value} {d : DataW H} {p : List MemPlace}
set_option maxRecDepth 100000 in
theorem open_buns (hv : Value.okWide Try.prog W r b0 22 v) (h : DataW.Trod enc Try.prog W base (fun _ => true) held 22 v d p) :
    ∃ (A : Option Addr) (l : List Bun) (cap : Nat) (L : Option (Nat × Nat)), v = .slice A l.length cap ∧ strOk l ∧ RowIn W A l.length cap 4 L (fun k => cB (ix l k)) := by
  obtain ⟨A, n, cap, L, G, hv, hQ, hr⟩ := open_row Try.underlying22 Try.cells48 (by omega) hv h (fun cs => ∃ x : Bun, cs = [.string x.tag, .string x.mark, .int .i64 x.count, .int .i64 x.mass] ∧ x.tag.size ≤ 9223372036854775807 ∧ x.mark.size ≤ 9223372036854775807) fun fuel cs x hx hl => by
    obtain ⟨_, _, _, _, m, _, _, i0, i1, i2, i3⟩ := trod_struct4 Try.underlying48 hx
    obtain ⟨s, e0, _, w0⟩ := DataW.trod_string Try.underlying9 i0
    obtain ⟨t, e1, _, w1⟩ := DataW.trod_string Try.underlying9 i1
    obtain ⟨a, e2, _, w2⟩ := DataW.trod_int Try.underlying3 i2
    obtain ⟨b, e3, _, w3⟩ := DataW.trod_int Try.underlying3 i3
    rw [show Try.prog.cellsOf 9 = 1 by kernel_rfl] at e0 e1
    rw [show Try.prog.cellsOf 3 = 1 by kernel_rfl] at e2 e3
    match cs, hl with
    | [u, v, w, z], _ =>
      simp at e0 e1 e2 e3
      subst e0 e1 e2 e3
      exact ⟨⟨s, t, a, b⟩, rfl, by simpa [maxLen] using w0, by simpa [maxLen] using w1⟩
  obtain ⟨l, rfl, hl⟩ := list_of hQ
  refine ⟨A, l, cap, L, hv, fun x hx => ?_, hr.as fun k hk => by rw [(hl k hk).1]; rfl⟩
  obtain ⟨k, hk, rfl⟩ := List.getElem_of_mem hx
  have := (hl k hk).2
  rwa [ix_eq hk] at this
end
set_option maxRecDepth 100000 in
theorem lorryGreedy3_lifted (os : Os) (started : os.Started) (H : Type) (enc : TypeId × Value → H) :
    ReturnsInHanded {} Try.checked os 3 .any (Rows.lorryGreedySpec.pre6 enc Try.prog Try.f3 Rows.lorryGreedyRow.domain false) (Rows.lorryGreedySpec.post enc Try.prog Try.f3 false true false false) := by
  refine returnsInHanded_of_change (C := Try.checked) Try.own started (by kernel_rfl) Try.func3
    (ChangeSpec.witness6 (enc := enc) (C := Try.checked) false ⟨#[], #[.slice none 0 0, .int .i64 0], []⟩ 8 (by kernel_rfl) (by kernel_rfl) (by kernel_rfl) (by kernel_rfl)) ?_
  intro W base args ds gs before hval0 hW hcnd _
  have hval : ∀ (j : Nat) t v, Try.f3.params[j]? = some t → args[j]? = some v → Value.okWide Try.prog W .any base t v := hval0
  have hW' := hW
  obtain ⟨p, q, hA0, hV, rfl, hfz, hnd⟩ := hW
  have hA : DataW.TrodAll enc Try.prog W 0 (fun _ => true) true Try.f3.params.toList args.toList ds p := hA0
  rw [Try.params3] at hA hval
  obtain ⟨v0, v1, d0, d1, p0, p1, rfl, rfl, rfl, h0, h1⟩ := trodAll_two hA
  obtain ⟨rfl, rfl⟩ := trodVars_none hV
  obtain ⟨A0, l, c0, L0, rfl, lr, hr0⟩ := open_buns (hval 0 22 v0 rfl rfl) h0
  obtain ⟨most, rfl, mostr⟩ := open_i64 Try.underlying3 (hval 1 3 v1 rfl rfl) h1
  refine (run_of_sp (lgreedy_sp l most c0 lr hr0.n_le) rfl (fun _ _ h => h) (inv_in (rowsIn_cons hr0 rowsIn_nil)) (okL_cons_mk (ok_in hr0 rfl) (okL_cons_mk (ok_v_mk) okL_nil_mk))).mono fun e W' ⟨he, hb⟩ => ?_
  subst he
  exact ⟨_, rfl, law_end (P := Try.prog) (B := 4) hW' rfl rfl Try.underlying4 Try.laidOut (by kernel_rfl) rfl hb⟩
theorem lorryGreedy3_holds : Rows.LorryGreedySaid :=
  OpenClaim.holds_of_wide 3 Try.f3 rfl rfl rfl rfl rfl rfl rfl ⟨rfl, rfl, rfl, rfl, rfl⟩ rfl rfl rfl rfl rfl (by kernel_rfl) Try.func3 (by kernel_rfl)
    (of_decide_eq_true (by kernel_rfl)) (by unfold Func.isWrapper; first | (rw [if_pos (by decide +kernel)]; kernel_rfl) | (rw [if_neg (by decide +kernel)]; exact ⟨rfl, rfl⟩))
    (fun os started H enc _ => lorryGreedy3_lifted os started H enc)
#print axioms lorryGreedy3_holds
end Go.Proofs.Ytdinkpefoljigaa
