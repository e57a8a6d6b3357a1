/- A contract that writes one row, at a member of a family. -/
import Derived.Test.YtmmabnoemckdiaaB
set_option maxRecDepth 100000
set_option linter.unusedSimpArgs false
set_option linter.unusedVariables false
namespace Go.Proofs.Ytmmabnoemckdiaa
open Go.RowKit
theorem inv_setg {β : Bs} {H : List Ob} {w w' : World} {o ob' : Ob} {j i g b : Nat} (hI : Inv β H w) (hj : H[j]? = some o) (hw : o.own i) (hb : β j i = some (g, b))
    (ht : w'.tape = w.tape) (hos : w'.os = w.os) (hout : w'.output = w.output) (hsz : w.heap.size ≤ w'.heap.size) (hh : ∀ k, k < w.heap.size → k ≠ g → w'.heap[k]? = w.heap[k]?)
    (hob : ObOk β w' j ob') (hown : ∀ i, ob'.own i → o.own i) (hmem : ∀ i, ob'.mem i → o.mem i) (hov : ∀ i, ob'.over i → o.over i) : Inv β (H.set j ob') w' ∧ ∀ n0, Fr n0 β H w β (H.set j ob') w' := by
  have hlt : j < H.length := (List.getElem?_eq_some_iff.1 hj).1
  have key : ∀ j1 o1, (H.set j ob')[j1]? = some o1 → (j1 = j ∧ o1 = ob') ∨ (j1 ≠ j ∧ H[j1]? = some o1) := fun j1 o1 h => by
    by_cases e : j1 = j
    · subst e
      rw [List.getElem?_set_self hlt] at h
      exact .inl ⟨rfl, (Option.some.inj h).symm⟩
    · rw [List.getElem?_set_ne (Ne.symm e)] at h
      exact .inr ⟨e, h⟩
  have fr : ∀ n0, Fr n0 β H w β (H.set j ob') w' := fun n0 => ⟨ht, hos, hout, hsz, fun k hk hn => hh k hk fun e => hn (by subst e; exact ⟨j, i, o, b, hj, hw, hb⟩), fun k _ ho => by
      obtain ⟨j1, i1, o1, b1, h1, h2, h3⟩ := ho
      rcases key j1 o1 h1 with ⟨rfl, rfl⟩ | ⟨_, h⟩
      · exact ⟨_, i1, o, b1, hj, hown _ h2, h3⟩
      · exact ⟨j1, i1, o1, b1, h, h2, h3⟩, fun k _ ho => by
      obtain ⟨j1, i1, o1, b1, h1, h2, h3⟩ := ho
      rcases key j1 o1 h1 with ⟨rfl, rfl⟩ | ⟨_, h⟩
      · exact ⟨_, i1, o, b1, hj, hmem _ h2, h3⟩
      · exact ⟨j1, i1, o1, b1, h, h2, h3⟩, fun _ _ _ _ h => h, fun hl => by simpa using hl⟩
  refine ⟨⟨⟨fun j1 o1 ho => ?_, fun j i hj => hI.out j i (by simpa using hj), fun j1 i1 j2 i2 o1 o2 g1 b1 b2 ho ho' hw' hm hb1 hb2 => ?_, fun j1 o1 i1 ho hv => ?_⟩, hI.gl.fr (fr 0)⟩, fr⟩
  · rcases key j1 o1 ho with ⟨rfl, rfl⟩ | ⟨hne, h⟩
    · exact hob
    · refine (hI.ob j1 o1 h).same (BLe.refl β) (fun _ h => h) hsz fun i1 g1 b1 hm hg1 => ?_
      by_cases e : g1 = g
      · subst e
        have := (hI.sep j i j1 i1 o o1 g1 b b1 hj h hw hm hb hg1).1
        omega
      · exact hh g1 ((hI.ob j1 o1 h).block hm hg1) e
  · rcases key j1 o1 ho with ⟨rfl, rfl⟩ | ⟨hne, h⟩ <;> rcases key j2 o2 ho' with ⟨e2, e3⟩ | ⟨hne', h'⟩
    · subst e2 e3; exact hI.sep _ i1 _ i2 o o g1 b1 b2 hj hj (hown _ hw') (hmem _ hm) hb1 hb2
    · exact hI.sep _ i1 j2 i2 o o2 g1 b1 b2 hj h' (hown _ hw') hm hb1 hb2
    · subst e2 e3; exact hI.sep j1 i1 _ i2 o1 o g1 b1 b2 h hj hw' (hmem _ hm) hb1 hb2
    · exact hI.sep j1 i1 j2 i2 o1 o2 g1 b1 b2 h h' hw' hm hb1 hb2
  · rcases key j1 o1 ho with ⟨rfl, rfl⟩ | ⟨_, h⟩
    · exact hI.bey _ o i1 hj (hov _ hv)
    · exact hI.bey j1 o1 i1 h hv
/-- What the contract hands back, at the member. -/
def atMem (F a : Nat) : SV → SV
  | .s _ _ o l c sz => .s F a o l c sz
  | x => x
theorem sp_mem {P : Program} {f : FuncId} {ty N n c a F : Nat} {len cp : Nat → Nat} {ff : Nat → Nat → Int} {g : Nat → Int} {H : List Ob} {X : Type} {R : X → SV} {n' : X → Nat} {g' : X → Nat → Int} {K : SV → List Ob → Prop}
    (h : Sp P f [.s 0 0 0 n c 1] [⟨ty, false, .row 1 1 (fun _ => n) (fun _ => c) (fun _ k => [.v (.int .i64 (g k))])⟩] (fun r H1 => ∃ x, r = R x ∧ H1 = [⟨ty, false, .row 1 1 (fun _ => n' x) (fun _ => c) (fun _ k => [.v (.int .i64 (g' x k))])⟩]))
    (hR : ∀ x, R x = .t [] ∨ R x = .s 0 0 0 (n' x) c 1)
    (hF : H[F]? = some ⟨ty, false, .row 1 N len cp (fun i k => [.v (.int .i64 (ff i k))])⟩) (ha : a < N) (hn : n ≤ len a) (hc : cp a = c) (h0 : 0 < c) (hg : ∀ k, k < n → ff a k = g k)
    (hk : ∀ x, K (atMem F a (R x)) (H.set F ⟨ty, false, .row 1 N (fun i => bif i == a then n' x else len i) cp (fun i k => [.v (.int .i64 (bif i == a then g' x k else ff i k))])⟩)) : Sp P f [.s F a 0 n c 1] H K := by
  refine ⟨h.1, fun β w vals hI hv => ?_⟩
  have hoF := hI.ob F _ hF
  unfold ObOk at hoF
  simp only [Bool.false_eq_true, if_false] at hoF
  rcases hoF a ha with ⟨_, hz⟩ | ⟨g0, cur, p1, p2, p3, p4, p5, p6⟩
  · omega
  let β0 : Bs := fun j i => if j = 0 ∧ i = 0 then some (g0, 0) else none
  have b00 : β0 0 0 = some (g0, 0) := if_pos ⟨rfl, rfl⟩
  have hownF : (⟨ty, false, .row 1 N len cp (fun i k => [.v (.int .i64 (ff i k))])⟩ : Ob).own a := ⟨ha, rfl, by show 0 < cp a; omega⟩
  have only : ∀ (o : Ob) (k : Nat), OwnB β0 [o] k → k = g0 := fun o k ⟨j, i, o', b, h1, _, h3⟩ => by
    by_cases e : j = 0 ∧ i = 0
    · obtain ⟨rfl, rfl⟩ := e
      rw [b00] at h3
      simpa using (by simpa using h3 : g0 = k ∧ 0 = b).1.symm
    · rw [show β0 j i = none from if_neg e] at h3; cases h3
  have hI0 : Inv β0 [⟨ty, false, .row 1 1 (fun _ => n) (fun _ => c) (fun _ k => [.v (.int .i64 (g k))])⟩] w := by
    refine ⟨⟨fun j o ho => ?_, fun j i hj => if_neg (fun e => by simp at hj; omega), fun j i j' i' o o' g1 b b' ho ho' _ _ hb hb' => ?_, fun j o i ho hov => ?_⟩, hI.gl.step (Nat.le_refl _) (fun _ _ _ => rfl) fun k _ hk2 => ?_⟩
    · match j with
      | 0 =>
        simp at ho; subst ho
        unfold ObOk
        simp only [Bool.false_eq_true, if_false]
        intro i hi
        obtain rfl : i = 0 := by omega
        refine .inr ⟨g0, cur, b00, p2, by rw [p3, hc], by omega, by omega, fun k hk2 => ⟨rfl, fun q x hx => ?_⟩⟩
        obtain ⟨_, r2⟩ := p6 k (by omega)
        match q, hx with
        | 0, hx =>
          obtain rfl : SV.v (.int .i64 (g k)) = x := by simpa using hx
          obtain ⟨u, r3, r4⟩ := r2 0 _ rfl
          simp only [Ok] at r4
          subst r4
          exact ⟨_, r3, by simp only [Ok]; rw [hg k hk2]⟩
        | q + 1, hx => simp at hx
      | j + 1 => simp at ho
    · by_cases e : j = 0 ∧ i = 0
      · by_cases e' : j' = 0 ∧ i' = 0
        · omega
        · rw [show β0 j' i' = none from if_neg e'] at hb'; cases hb'
      · rw [show β0 j i = none from if_neg e] at hb; cases hb
    · match j with
      | 0 =>
        simp at ho; subst ho
        have : 1 ≤ i := hov
        exact if_neg (fun e => by omega)
      | j + 1 => simp at ho
    · exact ⟨F, a, _, 0, hF, hownF, by rw [only _ k hk2]; exact p1⟩
  simp only [OkL, Ok] at hv
  obtain ⟨u, us, rfl, ⟨A, rfl, hle, hA⟩, rfl⟩ := hv
  obtain ⟨g1, b1, q1, rfl⟩ := hA h0
  rw [p1] at q1
  obtain ⟨rfl, rfl⟩ : g0 = g1 ∧ 0 = b1 := by simpa using q1
  refine (h.2 β0 w _ hI0 (by simp only [OkL, Ok]; exact ⟨_, _, rfl, ⟨_, rfl, hle, fun _ => ⟨g0, 0, b00, rfl⟩⟩, rfl⟩)).mono ?_
  rintro e w' ⟨r0, v, β1, H1, rfl, ⟨x, rfl, rfl⟩, k2, hI1, fr⟩
  have b10 : β1 0 0 = some (g0, 0) := fr.le 0 0 _ (by simp) b00
  have ho1 := hI1.ob 0 _ rfl
  unfold ObOk at ho1
  simp only [Bool.false_eq_true, if_false] at ho1
  rcases ho1 0 (by omega) with ⟨_, hz⟩ | ⟨g2, cur2, s1, s2, s3, s4, s5, s6⟩
  · omega
  rw [b10] at s1
  obtain ⟨rfl, _⟩ : g0 = g2 ∧ 0 = 0 := by simpa using s1
  have hsame : ∀ k, k < w.heap.size → k ≠ g0 → w'.heap[k]? = w.heap[k]? := fun k hk1 hk2 => fr.block k hk1 fun ho => hk2 (only _ k ho)
  obtain ⟨r1, r2⟩ := inv_setg (o := ⟨ty, false, .row 1 N len cp (fun i k => [.v (.int .i64 (ff i k))])⟩) (ob' := ⟨ty, false, .row 1 N (fun i => bif i == a then n' x else len i) cp (fun i k => [.v (.int .i64 (bif i == a then g' x k else ff i k))])⟩) (j := F) (i := a) (b := 0) hI hF hownF p1 fr.tape fr.os fr.output fr.size hsame (by
    unfold ObOk
    simp only [Bool.false_eq_true, if_false]
    intro i hi
    by_cases e : i = a
    · subst e
      refine .inr ⟨g0, cur2, p1, s2, by rw [s3, hc], by simp; omega, p5, fun k hk1 => ⟨rfl, fun q y hy => ?_⟩⟩
      simp only [beq_self_eq_true, cond_true] at hk1 hy
      match q, hy with
      | 0, hy =>
        obtain rfl : SV.v (.int .i64 (g' x k)) = y := by simpa using hy
        obtain ⟨u, t1, t2⟩ := (s6 k hk1).2 0 _ rfl
        simp only [Ok] at t2
        subst t2
        exact ⟨_, t1, by simp only [Ok]⟩
      | q + 1, hy => simp at hy
    · have eb : (i == a) = false := by simpa using e
      simp only [eb, cond_false]
      rcases hoF i hi with t | ⟨g3, cur3, t1, t2, t3, t4, t5, t6⟩
      · exact .inl t
      · rcases Nat.eq_zero_or_pos (cp i) with hc0 | hc0
        · exact .inl ⟨by omega, hc0⟩
        · refine .inr ⟨g3, cur3, t1, ?_, t3, t4, t5, t6⟩
          have hlt3 : g3 < w.heap.size := (Array.getElem?_eq_some_iff.1 t2).1
          rw [hsame g3 hlt3 fun e3 => ?_, t2]
          subst e3
          exact e ((hI.sep F a F i _ _ g3 0 0 hF hF hownF ⟨hi, fun h => (by cases h), fun _ => hc0⟩ p1 t1).2).symm) (fun i hi => hi) (fun i hi => ⟨hi.1, fun h => (by cases h), hi.2.2⟩) (fun i hi => hi)
  refine ⟨atMem F a (R x), v, β, _, rfl, hk x, ?_, r1, r2 _⟩
  rcases hR x with e | e
  · rw [e] at k2 ⊢
    simp only [atMem, Ok] at k2 ⊢
    obtain ⟨xs, rfl, k3⟩ := k2
    exact ⟨xs, rfl, by simpa only [OkL] using k3⟩
  · rw [e] at k2 ⊢
    simp only [atMem, Ok] at k2 ⊢
    obtain ⟨A, rfl, k3, k4⟩ := k2
    refine ⟨A, rfl, k3, fun hc0 => ?_⟩
    obtain ⟨g4, b4, k5, k6⟩ := k4 hc0
    rw [b10] at k5
    obtain ⟨rfl, rfl⟩ : g0 = g4 ∧ 0 = b4 := by simpa using k5
    exact ⟨g0, 0, p1, k6⟩
end Go.Proofs.Ytmmabnoemckdiaa
