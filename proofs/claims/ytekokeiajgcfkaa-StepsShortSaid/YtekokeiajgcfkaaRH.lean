/- The region in which an iterator calls yield. No program in sight. -/
import Derived.Test.YtekokeiajgcfkaaRG
set_option maxRecDepth 100000
set_option linter.unusedSimpArgs false
set_option linter.unusedVariables false
namespace Go.Proofs.Ytekokeiajgcfkaa
open Go.RowKit
theorem getD_set_same {a : Array Value} {i : Nat} {v : Value} (h : i < a.size) : (a.setIfInBounds i v).getD i undef = v := by simp [h]
theorem getD_set_other {a : Array Value} {i j : Nat} {v : Value} (h : i ≠ j) : (a.setIfInBounds i v).getD j undef = a.getD j undef := by simp [Array.getD_eq_getD_getElem?, h]
theorem yield_ops {P : Program} {id : Nat} {a : Act} {w : World} {Q : Exit → Act → World → Prop} {l : Nat} {v : Value} {d0 d1 d2 d3 s0 s1 : Nat} {ty0 ty1 ty2 ty3 : TypeId} {p0 p1 p2 p3 : String} {af0 af1 af2 af3} {ats : Array TypeId} {tu : TypeId} {fn : FuncId} {tmps : Array Value} {assign body : Code}
    (h0 : a.tmps.getD s0 undef = .func (.yield l) #[] #[]) (h1 : a.tmps.getD s1 undef = v) (hd0 : d0 < a.tmps.size) (hd1 : d1 < a.tmps.size) (hd2 : d2 < a.tmps.size) (n1 : d0 ≠ s1) (n2 : d1 ≠ d0) (n3 : d0 ≠ d1)
    (hy : (Instr.yield l #[v]).run P w = .ok (.round l fn tmps assign body) w)
    (hr : RoundIn Fence.wide 0 P l fn tmps assign body w fun e w' => ∃ b, e = .returned (.bool b) ∧ Q .normal ((((a.put (some d0) (.func (.yield l) #[] #[])).put (some d1) v).put (some d2) (.bool b)).put (some d3) (.bool !b)) w') :
    ∀ ops : Array Oper, ops.size = 4 → ops[0]? = some ⟨some d0, .move (.tmp s0), ty0, p0, af0, none⟩ → ops[1]? = some ⟨some d1, .move (.tmp s1), ty1, p1, af1, none⟩ → ops[2]? = some ⟨some d2, .call ⟨.value (.tmp d0), #[.tmp d1], ats⟩, ty2, p2, af2, none⟩ → ops[3]? = some ⟨some d3, .unOp .not tu (.tmp d2), ty3, p3, af3, none⟩ → (Code.region id ops false).wpIn Fence.wide 0 P Q a w := by
  intro ops s4 g0 g1 g2 g3
  refine wpIn_region ?_
  rw [s4, show List.range 4 = [0, 1, 2, 3] from rfl]
  have e0 : (a.put (some d0) (.func (.yield l) #[] #[])).tmps.getD s1 undef = v := by
    simp only [Act.put]
    rw [getD_set_other n1]
    exact h1
  have e1 : ((a.put (some d0) (.func (.yield l) #[] #[])).put (some d1) v).tmps.getD d0 undef = .func (.yield l) #[] #[] := by
    simp only [Act.put]
    rw [getD_set_other n2]
    exact getD_set_same hd0
  have e2 : ((a.put (some d0) (.func (.yield l) #[] #[])).put (some d1) v).tmps.getD d1 undef = v := by
    simp only [Act.put]
    exact getD_set_same (by simpa using hd1)
  have e3 : ∀ b, ((((a.put (some d0) (.func (.yield l) #[] #[])).put (some d1) v).put (some d2) (.bool b))).tmps.getD d2 undef = .bool b := by
    intro b
    simp only [Act.put]
    exact getD_set_same (by simpa using hd2)
  have m0 : ∀ (a : Act) (w : World) (next : Act → World → Prop) (d s : Nat) ty p af, next (a.put (some d) (a.tmps.getD s undef)) w → (Oper.wpIn Fence.wide 0 P ⟨some d, .move (.tmp s), ty, p, af, none⟩ a w next Q) := by
    intro a w next d s ty p af h
    refine ⟨fun _ _ => trivial, ?_⟩
    rw [Oper.semAt_eq _ _ _ (fun c hc => by cases hc)]
    exact h
  simp only [wpOpsIn]
  simp only [g0, g1, g2, g3]
  simp only [Region.wanted, if_true]
  refine m0 _ _ _ _ _ _ _ _ ?_
  rw [h0]
  refine m0 _ _ _ _ _ _ _ _ ?_
  rw [e0]
  refine ⟨fun _ _ => trivial, ?_⟩
  rw [Oper.semAt_eq _ _ _ (fun c hc => by cases hc)]
  have hcall : (execOp ((a.put (some d0) (.func (.yield l) #[] #[])).put (some d1) v).eval ⟨some d2, .call ⟨.value (.tmp d0), #[.tmp d1], ats⟩, ty2, p2, af2, none⟩).run P w = .ok (.round l fn tmps assign body) w := by
    have e1' : ((a.put (some d0) (.func (.yield l) #[] #[])).put (some d1) v).eval (.tmp d0) = .func (.yield l) #[] #[] := e1
    have e2' : ((a.put (some d0) (.func (.yield l) #[] #[])).put (some d1) v).eval (.tmp d1) = v := e2
    simp [execOp, resolve, e1', e2', Deferred.ofValue, invoke, Sem.run_bind, Sem.run_pure, Result.andThen, hy]
  rw [hcall, Oper.uponIn_round]
  refine ⟨fun e => by simp [Fence.wide] at e, hr.mono ?_⟩
  rintro e w' ⟨b, rfl, hq⟩
  simp only
  refine ⟨fun _ _ => trivial, ?_⟩
  rw [Oper.semAt_eq _ _ _ (fun c hc => by cases hc)]
  have hnot : (execOp (((a.put (some d0) (.func (.yield l) #[] #[])).put (some d1) v).put (some d2) (.bool b)).eval ⟨some d3, .unOp .not tu (.tmp d2), ty3, p3, af3, none⟩).run P w' = .ok (.value (.bool !b)) w' := by
    have e3' : (((a.put (some d0) (.func (.yield l) #[] #[])).put (some d1) v).put (some d2) (.bool b)).eval (.tmp d2) = .bool b := e3 b
    simp [execOp, e3', Op.unary, asBool, Sem.run_bind, Sem.run_pure, Result.andThen]
  rw [hnot]
  exact hq
theorem yield_region {P : Program} {id : Nat} {a : Act} {w : World} {Q : Exit → Act → World → Prop} {l : Nat} {v : Value} {d0 d1 d2 d3 s0 s1 : Nat} {ty0 ty1 ty2 ty3 : TypeId} {p0 p1 p2 p3 : String} {af0 af1 af2 af3} {ats : Array TypeId} {tu : TypeId} {fn : FuncId} {tmps : Array Value} {assign body : Code}
    (h0 : a.tmps.getD s0 undef = .func (.yield l) #[] #[]) (h1 : a.tmps.getD s1 undef = v) (hd0 : d0 < a.tmps.size) (hd1 : d1 < a.tmps.size) (hd2 : d2 < a.tmps.size) (n1 : d0 ≠ s1) (n2 : d1 ≠ d0) (n3 : d0 ≠ d1)
    (hy : (Instr.yield l #[v]).run P w = .ok (.round l fn tmps assign body) w)
    (hr : RoundIn Fence.wide 0 P l fn tmps assign body w fun e w' => ∃ b, e = .returned (.bool b) ∧ Q .normal ((((a.put (some d0) (.func (.yield l) #[] #[])).put (some d1) v).put (some d2) (.bool b)).put (some d3) (.bool !b)) w') :
    (Code.region id #[⟨some d0, .move (.tmp s0), ty0, p0, af0, none⟩, ⟨some d1, .move (.tmp s1), ty1, p1, af1, none⟩, ⟨some d2, .call ⟨.value (.tmp d0), #[.tmp d1], ats⟩, ty2, p2, af2, none⟩, ⟨some d3, .unOp .not tu (.tmp d2), ty3, p3, af3, none⟩] false).wpIn Fence.wide 0 P Q a w :=
  yield_ops h0 h1 hd0 hd1 hd2 n1 n2 n3 hy hr _ rfl rfl rfl rfl rfl
end Go.Proofs.Ytekokeiajgcfkaa
