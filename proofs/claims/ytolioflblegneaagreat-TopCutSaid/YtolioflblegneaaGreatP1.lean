/- For every length, order, prices and scale TopCut returns true, and leaves its arguments as they were. No conditions. -/
import Derived.Test.YtolioflblegneaaGreatYG
import Derived.Test.YtolioflblegneaaGreatIn
import Derived.Lib.SmallJoins
import Derived.Deep.Strs
import Derived.Carry
import Derived.Test.YtolioflblegneaaGreatRows
set_option linter.unusedSimpArgs false
set_option linter.unusedVariables false
namespace Go.Proofs.YtolioflblegneaaGreat
open Go.ChangeShapes Go.WideShapes Go.ChangeAt Go.RowKit Go.Joins
theorem Tryz.own : ownKnob Tryz.prog.godebug = none := by kernel_rfl
theorem Tryz.laidOut : laidOutB Tryz.prog = true := by kernel_rfl
theorem Tryz.cells56 : Tryz.prog.cellsOf 56 = 2 := by kernel_rfl
section
variable {H : Type} {enc : TypeId × Value → H} {W : World} {base b0 : Nat} {held : Bool} {r : Reach} {v : Value} {d : DataW H} {p : List MemPlace}
set_option maxRecDepth 100000 in
theorem open_pieces (hv : Value.okWide Tryz.prog W r b0 22 v) (h : DataW.Trod enc Tryz.prog W base (fun _ => true) held 22 v d p) :
    ∃ (A : Option Addr) (l : List Pc) (cap : Nat) (L : Option (Nat × Nat)), v = .slice A l.length cap ∧ (∀ x ∈ l, isI64 x.len ∧ isI64 x.cnt) ∧ RowIn W A l.length cap 2 L (fun k => cPc (ix l k)) := by
  obtain ⟨A, l, cap, L, rfl, hr, hl⟩ := open_pairs Tryz.underlying22 Tryz.underlying56 Tryz.cells56 rfl rfl Tryz.underlying3 Tryz.underlying3 (by kernel_rfl) (by kernel_rfl) hv h
  refine ⟨A, l.map fun x => ⟨x.1, x.2⟩, cap, L, by rw [List.length_map], fun x hx => ?_, ?_⟩
  · obtain ⟨y, hy, rfl⟩ := List.mem_map.1 hx
    exact hr y hy
  · rw [List.length_map]
    exact hl.as fun k hk => by rw [ix_eq (l := l.map _) (by rw [List.length_map]; exact hk), ix_eq hk, List.getElem_map]; rfl
end
set_option maxRecDepth 100000 in
theorem topCut1_lifted (os : Os) (started : os.Started) (H : Type) (enc : TypeId × Value → H) :
    ReturnsInHanded {} Tryz.checked os 3 .any (Rows.topCutSpec.pre6 enc Tryz.prog Tryz.f3 Rows.topCutRow.domain false) (Rows.topCutSpec.post enc Tryz.prog Tryz.f3 false true false false) := by
  refine returnsInHanded_of_change (C := Tryz.checked) Tryz.own started (by kernel_rfl) Tryz.func3
    (ChangeSpec.witness6 (enc := enc) (C := Tryz.checked) false ⟨#[], #[.int .i64 0, .slice none 0 0, .slice none 0 0, .int .i64 0], []⟩ 8 (by kernel_rfl) (by kernel_rfl) (by kernel_rfl) (by kernel_rfl)) ?_
  intro W base args ds gs before hval0 hW hcnd _
  have hval : ∀ (j : Nat) t v, Tryz.f3.params[j]? = some t → args[j]? = some v → Value.okWide Tryz.prog W .any base t v := hval0
  have hW' := hW
  obtain ⟨p, q, hA0, hV, rfl, hfz, hnd⟩ := hW
  have hA : DataW.TrodAll enc Tryz.prog W 0 (fun _ => true) true Tryz.f3.params.toList args.toList ds p := hA0
  rw [Tryz.params3] at hA hval
  obtain ⟨v0, v1, v2, v3, d0, d1, d2, d3, p0, p1, p2, p3, rfl, rfl, rfl, h0, h1, h2, h3⟩ := trodAll_four hA
  obtain ⟨rfl, rfl⟩ := trodVars_none hV
  obtain ⟨length, rfl, lengthr⟩ := open_i64 Tryz.underlying3 (hval 0 3 v0 rfl rfl) h0
  obtain ⟨A1, l, c1, L1, rfl, lr, hr1⟩ := open_pieces (hval 1 22 v1 rfl rfl) h1
  obtain ⟨A2, pr, c2, L2, rfl, prr, hr2⟩ := open_ints Tryz.underlying23 Tryz.underlying3 (by kernel_rfl) (hval 2 23 v2 rfl rfl) h2
  obtain ⟨sc, rfl, scr⟩ := open_i64 Tryz.underlying3 (hval 3 3 v3 rfl rfl) h3
  refine (run_of_sp (topcut_sp length sc l pr c1 c2 hr1.n_le hr2.n_le) rfl (fun _ _ h => h) (inv_in (rowsIn_cons hr1 (rowsIn_cons hr2 rowsIn_nil))) (okL_cons_mk (ok_v_mk) (okL_cons_mk (ok_in hr1 rfl) (okL_cons_mk (ok_in hr2 rfl) (okL_cons_mk (ok_v_mk) okL_nil_mk))))).mono fun e W' ⟨he, hb⟩ => ?_
  subst he
  exact ⟨_, rfl, law_end (P := Tryz.prog) (B := 4) hW' rfl rfl Tryz.underlying4 Tryz.laidOut (by kernel_rfl) rfl hb⟩
theorem topCut1_holds : Rows.TopCutSaid :=
  OpenClaim.holds_of_wide 3 Tryz.f3 rfl rfl rfl rfl rfl rfl rfl ⟨rfl, rfl, rfl, rfl, rfl⟩ rfl rfl rfl rfl rfl (by kernel_rfl) Tryz.func3 (by kernel_rfl)
    (of_decide_eq_true (by kernel_rfl)) (by unfold Func.isWrapper; first | (rw [if_pos (by decide +kernel)]; kernel_rfl) | (rw [if_neg (by decide +kernel)]; exact ⟨rfl, rfl⟩))
    (fun os started H enc _ => topCut1_lifted os started H enc)
#print axioms topCut1_holds
end Go.Proofs.YtolioflblegneaaGreat
