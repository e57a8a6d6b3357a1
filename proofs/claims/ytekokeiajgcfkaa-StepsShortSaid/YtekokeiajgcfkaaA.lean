/- Steps; what breaks yields. -/
import Derived.Test.YtekokeiajgcfkaaTi
import Derived.Test.YtekokeiajgcfkaaRH
set_option maxRecDepth 100000
set_option linter.unusedSimpArgs false
set_option linter.unusedVariables false
namespace Go.Proofs.Ytekokeiajgcfkaa
open Go.RowKit
structure Stp where
  x : Int
  v : Int
instance : Inhabited Stp := ⟨⟨0, 0⟩⟩
def cSt (p : Stp) : List SV := [.v (.int .i64 p.x), .v (.int .i64 p.v)]
/-- A row of steps that is only read. -/
def rSt (l : List Stp) : Ob := ⟨33, true, .row 2 1 (fun _ => l.length) (fun _ => 0) (fun _ k => cSt (ix l k))⟩
attribute [push_cast] rSt cSt
def nxt (a b : List Stp) : Int :=
  match a, b with
  | [], [] => 0
  | [], q :: _ => q.x
  | p :: _, [] => p.x
  | p :: _, q :: _ => min p.x q.x
def drp (x : Int) : List Stp → List Stp
  | [] => []
  | p :: l => if p.x = x then l else p :: l
def brkF : Nat → List Stp → List Stp → List Int
  | 0, _, _ => []
  | n + 1, a, b => if a.length = 0 ∧ b.length = 0 then [] else nxt a b :: brkF n (drp (nxt a b) a) (drp (nxt a b) b)
/-- Each From of two lists once, as breaks yields them. -/
def brk (a b : List Stp) : List Int := brkF (a.length + b.length) a b
def bxS (j i p c : Nat) : Ob := ⟨22, false, .st [.s j 0 i p c 2]⟩
attribute [push_cast] bxS
/-- How far breaks is: its two boxes. -/
structure Br where
  i : Nat
  p : Nat
  c : Nat
  j : Nat
  q : Nat
  d : Nat
def brO (a b : List Stp) (s : Br) : List Ob := [rSt a, rSt b, bxS 0 s.i s.p s.c, bxS 1 s.j s.q s.d]
theorem wpIn_loop_x {F : Fence} {n : Nat} {P : Program} {c : Code} {Q : Exit → Act → World → Prop} {a : Act} {w : World} {X : Type} (I : X → Act → World → Prop) (μ : X → Nat) (x0 : X) (h0 : I x0 a w)
    (round : ∀ x a w, I x a w → c.wpIn F n P (Exit.then (fun a' w' => ∃ x', I x' a' w' ∧ μ x' < μ x) Q) a w) : (Code.loop c).wpIn F n P Q a w := by
  intro b k cs hro hb hr
  have key : ∀ m x a w, μ x = m → I x a w → ∃ e a' w', Q e a' w' ∧ ArrivesIn (Machine.fenced P F) P (lone (b.atR a (.code c :: .inLoop c :: k)) cs w) b k cs e a' w' := by
    intro m
    induction m using Nat.strongRecOn with
    | _ m ih =>
      intro x a w hn hI
      obtain ⟨e, a₁, w₁, hq, harr⟩ := round x a w hI b (.inLoop c :: k) cs hro hb hr
      cases e with
      | normal =>
        obtain ⟨x', hI', hlt⟩ := hq
        obtain ⟨e₂, a₂, w₂, hq₂, harr₂⟩ := ih (μ x') (by omega) x' a₁ w₁ rfl hI'
        exact ⟨e₂, a₂, w₂, hq₂, .of_steps (StepsIn.trans harr (.one (fenced_calm hb hr rfl) stepR_inLoop)) harr₂⟩
      | exit id => exact ⟨_, a₁, w₁, hq, .pass (x := .inLoop c) rfl (fun _ _ => .inl (by simp)) harr⟩
      | goto l => exact ⟨_, a₁, w₁, hq, .pass (x := .inLoop c) rfl (fun _ _ => .inl (by simp)) harr⟩
      | ret => exact ⟨_, a₁, w₁, hq, .pass (x := .inLoop c) rfl (fun _ _ => .inl (by simp)) harr⟩
      | panic ch => exact ⟨_, a₁, w₁, hq, .pass (x := .inLoop c) rfl (fun _ _ => .inl (by simp)) harr⟩
      | outgrown => exact ⟨_, a₁, w₁, hq, .pass (x := .inLoop c) rfl (fun _ _ => .inl (by simp)) harr⟩
  obtain ⟨e, a', w', hq, harr⟩ := key _ x0 a w rfl h0
  exact ⟨e, a', w', hq, .of_steps (.one (fenced_calm hb hr rfl) stepR_loop) harr⟩
/-- A piece of code without yield, in the iterator's own frame. -/
theorem piece {P : Program} {nt n : Nat} {pl : List (Nat × Plan)} {c : Code} {σ : Sl} {H : List Ob} {K : Kt} {β : Bs} {a : Act} {w : World} {Q : Exit → Act → World → Prop} (hm : P.follows .mixedOrders = true) (hok : okCode nt pl c = true)
    (hI : Inv β H w) (hσ : SlotsOk β σ a) (hs : a.tmps.size = nt) (hd : a.defers = []) (hx : ex ⟨P, true, H.length, nt, pl, true, false⟩ c σ H K)
    (hQ : ∀ e β' σ' H' a' w', K e σ' H' → Inv β' H' w' → Fr H.length β H w β' H' w' → SlotsOk β' σ' a' → a'.tmps.size = nt → a'.defers = [] → Q e a' w') : c.wpIn Fence.wide n P Q a w := by
  have hst : St ⟨P, true, H.length, nt, pl, true, false⟩ β H w β σ H a w := ⟨hI, hσ, hs, by rw [hd]; exact .nil, Fr.refl _ _ _ _, Nat.le_refl _⟩
  refine wpIn_wide.2 (wp_mono (ex_sound (E := ⟨P, true, H.length, nt, pl, true, false⟩) hm c σ H K hok hx β H w β a w hst) ?_)
  rintro e a' w' ⟨β', σ', H', hk, hs'⟩
  exact hQ e β' σ' H' a' w' hk hs'.inv hs'.fr hs'.slots hs'.size (hs'.defers.no rfl)
/-- The slots of breaks' iterator between rounds. -/
def brS (l : Nat) : Sl := [(0, .f (.yield l) [] []), (1, .p 2 0 0), (2, .p 3 0 0)]
theorem entry_slots {nt : Nat} {β : Bs} {args : List SV} {vals : List Value} (ha : OkL β args vals) (hn : args.length ≤ nt) : SlotsOk β (parS 0 args) { tmps := vals.toArray ++ Array.replicate (nt - vals.toArray.size) undef, defers := [] } ∧ (vals.toArray ++ Array.replicate (nt - vals.toArray.size) undef).size = nt := by
  have hl := okL_length ha
  constructor
  · exact fun d => parS_ok ha 0 (fun d => (vals.toArray ++ Array.replicate (nt - vals.toArray.size) undef).getD d undef) (fun i u hu => by
      have hlt := (List.getElem?_eq_some_iff.1 hu).1
      simp only [Nat.zero_add, Array.getD_eq_getD_getElem?]
      rw [Array.getElem?_append_left (by simpa using hlt)]
      simp [hu]) d
  · simp
    omega
theorem drop_none {α : Type} {l : List α} {i : Nat} (h : i = l.length) : l.drop i = [] := by subst h; simp
theorem nxt_ab {a b : List Stp} {i j : Nat} (hi : i < a.length) (hj : j < b.length) : nxt (a.drop i) (b.drop j) = min (ix a i).x (ix b j).x := by rw [drop_ix hi, drop_ix hj]; rfl
theorem nxt_a {a b : List Stp} {i j : Nat} (hi : i < a.length) (hj : j = b.length) : nxt (a.drop i) (b.drop j) = (ix a i).x := by rw [drop_ix hi, drop_none hj]; rfl
theorem nxt_b {a b : List Stp} {i j : Nat} (hi : i = a.length) (hj : j < b.length) : nxt (a.drop i) (b.drop j) = (ix b j).x := by rw [drop_none hi, drop_ix hj]; rfl
theorem dr1 {l : List Stp} {i : Nat} {x : Int} (hi : i < l.length) (h : (ix l i).x = x) : l.drop (i + 1) = drp x (l.drop i) := by rw [drop_ix hi, drp, if_pos h]
theorem dr2 {l : List Stp} {i : Nat} {x : Int} (hi : i < l.length) (h : ¬ (ix l i).x = x) : l.drop i = drp x (l.drop i) := by
  have e := drop_ix hi
  rw [e, drp, if_neg h]
theorem dr3 {l : List Stp} {i : Nat} {x : Int} (hi : i = l.length) : l.drop i = drp x (l.drop i) := by rw [drop_none hi, drp]
/-- Where the iterator stands. -/
structure BrI (W : List Value → Br → Bs → List Ob → World → Prop) (a b : List Stp) (l : Nat) (x : Br × List Value × Nat) (a' : Act) (w' : World) : Prop where
  ex : ∃ β T, W x.2.1 x.1 β T w' ∧ SlotsOk β (brS l) a'
  size : a'.tmps.size = 68
  df : a'.defers = []
  vals : (brk a b).map (Value.int .i64) = x.2.1 ++ (brkF x.2.2 (a.drop x.1.i) (b.drop x.1.j)).map (Value.int .i64)
  ia : x.1.i + x.1.p = a.length
  ib : x.1.j + x.1.q = b.length
  n : x.1.p + x.1.q ≤ x.2.2
theorem results_nil {P : Program} {fn : Func} {tmps : Array Value} {w : World} (h : fn.results = #[]) : ∃ v, (results fn tmps).run P w = .ok v w := by
  unfold results
  rw [h]
  exact ⟨_, by simp [Sem.run_bind, Sem.run_pure, Result.andThen]; rfl⟩
theorem breaks_it (a b : List Stp) (c d : Nat) (ha : a.length ≤ 250) (hb : b.length ≤ 250) : Iter Try.prog 59 [.p 2 0 0, .p 3 0 0] 4 (brO a b) ⟨0, a.length, c, 0, b.length, d⟩ ((brk a b).map (Value.int .i64)) := by
  intro l tmps fn t assign body W Z hW1 hW2 hW3 β T w us hW hus
  refine callsIn_of_wp_marks Try.func59 rfl trivial ?_
  refine wpIn_block ?_
  refine wpIn_loop_x (BrI W a b l) (fun x => x.2.2) (⟨0, a.length, c, 0, b.length, d⟩, [], a.length + b.length) ?_ ?_
  · have hy : OkL β [.f (.yield l) [] [], .p 2 0 0, .p 3 0 0] (Value.func (.yield l) #[] #[] :: us) := by
      simp only [OkL, Ok]
      exact ⟨_, _, rfl, ⟨#[], #[], rfl, rfl, rfl⟩, by simpa only [OkL, Ok] using hus⟩
    have he := entry_slots (nt := 68) hy (by simp)
    have e1 : (Value.func (.yield l) #[] #[] :: us).toArray = #[.func (.yield l) #[] #[]] ++ us.toArray := by simp
    rw [e1] at he
    exact ⟨⟨β, T, hW, he.1⟩, he.2, rfl, rfl, by simp, by simp, Nat.le_refl _⟩
  · rintro ⟨⟨i, p, c, j, q, d⟩, D, n⟩ a1 w1 ⟨⟨β1, T1, q1, q2⟩, q3, q4, q5, q6, q7, q8⟩
    simp only at q1 q5 q6 q7 q8
    have hI1 := (hW1 _ _ _ _ _ q1).1
    refine wpIn_seq (piece (K := fun e σ' H' => (H' = brO a b ⟨i, p, c, j, q, d⟩ ++ T1 ∧ slE σ' (brS l)) ∧ (e = .normal ∧ (0 < p ∨ 0 < q) ∨ e = .exit 0 ∧ p = 0 ∧ q = 0)) (pl := []) mixed (by decide +kernel) hI1 q2 q3 q4 ?_ ?_)
    · simp only [push_cast, ↓branch_true, ↓branch_false, Nat.reduceBEq, Nat.reduceAdd, Nat.reduceMul, Nat.reduceSub, Int.reduceToNat, reduceCtorEq, branch_decide, branch_not, branch_beq, branch_bne, brO, brS, List.cons_append, List.nil_append]
      omega
    rintro e β2 σ2 H2 a2 w2 ⟨⟨rfl, hsl⟩, hk⟩ hI2 hF2 hs2 hz2 hd2
    have hs2 := slE_ok hs2 hsl
    have r2 := hW2 _ _ _ _ _ _ _ _ q1 hI2 hF2 rfl
    rcases hk with ⟨rfl, hk⟩ | ⟨rfl, hp0, hq0⟩
    · refine wpIn_block (wpIn_seq (piece (K := fun e σ' H' => (H' = brO a b ⟨i, p, c, j, q, d⟩ ++ T1 ∧ slE σ' (brS l)) ∧ e = .normal) (pl := []) mixed (by decide +kernel) hI2 hs2 hz2 hd2 ?_ ?_))
      · simp only [push_cast, ↓branch_true, ↓branch_false, Nat.reduceBEq, Nat.reduceAdd, Nat.reduceMul, Nat.reduceSub, Int.reduceToNat, reduceCtorEq, branch_decide, branch_not, branch_beq, branch_bne, brO, brS, List.cons_append, List.nil_append]
      rintro e β3 σ3 H3 a3 w3 ⟨⟨rfl, hsl⟩, rfl⟩ hI3 hF3 hs3 hz3 hd3
      have hs3 := slE_ok hs3 hsl
      have r3 := hW2 _ _ _ _ _ _ _ _ r2 hI3 hF3 rfl
      refine wpIn_seq (piece (K := fun e σ' H' => (H' = brO a b ⟨i, p, c, j, q, d⟩ ++ T1 ∧ slE σ' ((4, .v (.int .i64 (nxt (a.drop i) (b.drop j)))) :: brS l)) ∧ e = .normal) (pl := []) mixed (by decide +kernel) hI3 hs3 hz3 hd3 ?_ ?_)
      · simp only [push_cast, ↓branch_true, ↓branch_false, Nat.reduceBEq, Nat.reduceAdd, Nat.reduceMul, Nat.reduceSub, Int.reduceToNat, reduceCtorEq, branch_decide, branch_not, branch_beq, branch_bne, brO, brS, List.cons_append, List.nil_append]
        exact ⟨fun h => ⟨by omega, by omega, by omega, by omega, by rw [nxt_b (by omega) (by omega)]⟩, fun h => ⟨fun h1 => ⟨by omega, by omega, by omega, by omega, by rw [nxt_a (by omega) (by omega)]⟩, fun h1 => ⟨by omega, by omega, by omega, by omega, by omega, by omega, by omega, by omega, by rw [nxt_ab (by omega) (by omega)]⟩⟩⟩
      rintro e β4 σ4 H4 a4 w4 ⟨⟨rfl, hsl⟩, rfl⟩ hI4 hF4 hs4 hz4 hd4
      have hs4 := slE_ok hs4 hsl
      have r4 := hW2 _ _ _ _ _ _ _ _ r3 hI4 hF4 rfl
      have t0 : a4.tmps.getD 0 undef = .func (.yield l) #[] #[] := by
        have := hs4 0
        simp only [look, brS, lk, Nat.reduceBEq, Ok] at this
        obtain ⟨xs, ys, h1, h2, h3⟩ := this
        simp only [OkL] at h2 h3
        rw [h1, Array.toList_eq_nil_iff.1 h2, Array.toList_eq_nil_iff.1 h3]
      have t4 : a4.tmps.getD 4 undef = .int .i64 (nxt (a.drop i) (b.drop j)) := by
        have := hs4 4
        simpa only [look, brS, lk, Nat.reduceBEq, Ok] using this
      obtain ⟨x, hx⟩ : ∃ x, x = nxt (a.drop i) (b.drop j) := ⟨_, rfl⟩
      obtain ⟨n, rfl⟩ : ∃ m, n = m + 1 := ⟨n - 1, by omega⟩
      have hn0 : ¬ ((a.drop i).length = 0 ∧ (b.drop j).length = 0) := by simp only [List.length_drop]; omega
      have hvals : (brk a b).map (Value.int .i64) = D ++ Value.int .i64 x :: (brkF n (drp x (a.drop i)) (drp x (b.drop j))).map (Value.int .i64) := by
        rw [q5, brkF, if_neg hn0, ← hx]; rfl
      rw [← hx] at t4 hs4
      refine wpIn_seq (wpIn_seq (yield_region t0 t4 (by omega) (by omega) (by omega) (by decide) (by decide) (by decide) ((hW1 _ _ _ _ _ r4).2 _) ((hW3 _ _ _ _ _ _ _ hvals r4).mono ?_)))
      have hsl5 : ∀ {β5 : Bs} (y : Bool), SlotsOk β5 ((4, .v (.int .i64 x)) :: brS l) a4 → SlotsOk β5 ((41, .v (.bool y)) :: (40, .junk) :: (39, .junk) :: (38, .junk) :: (4, .v (.int .i64 x)) :: brS l)
          ((((a4.put (some 38) (.func (.yield l) #[] #[])).put (some 39) (.int .i64 x)).put (some 40) (.bool !y)).put (some 41) (.bool y)) := fun y h =>
        look_put (look_put (look_put (look_put h (by simp only [Ok]) (by omega)) (by simp only [Ok]) (by simp [Act.put]; omega)) (by simp only [Ok]) (by simp [Act.put]; omega)) (by simp only [Ok]) (by simp [Act.put]; omega)
      rintro e w5 (⟨rfl, β5, T5, hk5, hW5⟩ | ⟨rfl, hZ⟩)
      · refine ⟨true, rfl, ?_⟩
        have hs5 := hsl5 false (slots_keep hk5 (by rfl) hs4)
        refine wpIn_cond_false (by simp [Act.put, Act.eval, hz4]) (wpIn_skip ?_)
        have hI5 := (hW1 _ _ _ _ _ hW5).1
        refine piece (nt := 68) (K := fun e σ' H' => (∃ s', H' = brO a b s' ++ T5 ∧ a.drop s'.i = drp x (a.drop i) ∧ b.drop s'.j = drp x (b.drop j) ∧ s'.i + s'.p = a.length ∧ s'.j + s'.q = b.length ∧ s'.p + s'.q < p + q) ∧ slE σ' (brS l) ∧ e = .normal) (pl := []) mixed (by decide +kernel) hI5 hs5 (by simp [Act.put, hz4]) hd4 ?_ ?_
        · have k1 : 0 < p → 0 < q → x = min (ix a i).x (ix b j).x := fun h1 h2 => by rw [hx, nxt_ab (by omega) (by omega)]
          have k2 : 0 < p → q = 0 → x = (ix a i).x := fun h1 h2 => by rw [hx, nxt_a (by omega) (by omega)]
          have k3 : p = 0 → 0 < q → x = (ix b j).x := fun h1 h2 => by rw [hx, nxt_b (by omega) (by omega)]
          simp only [push_cast, ↓branch_true, ↓branch_false, Nat.reduceBEq, Nat.reduceAdd, Nat.reduceMul, Nat.reduceSub, Int.reduceToNat, reduceCtorEq, branch_decide, branch_not, branch_beq, branch_bne, brO, brS, List.cons_append, List.nil_append]
          repeat' (with_reducible (first | apply And.intro | intro _))
          all_goals first
            | omega
            | (refine ⟨⟨_, _, _, _, _, _⟩, rfl, ?_, ?_, by simp only; omega, by simp only; omega, by simp only; omega⟩ <;> (try simp only) <;> first | exact dr1 (by omega) (by assumption) | exact dr2 (by omega) (by assumption) | exact dr3 (by omega))
        rintro e β6 σ6 H6 a6 w6 ⟨⟨s', rfl, u1, u2, u3, u4, u5⟩, hsl, rfl⟩ hI6 hF6 hs6 hz6 hd6
        refine ⟨(s', D ++ [.int .i64 x], n), ⟨⟨β6, T5, hW2 _ _ _ _ _ _ _ _ hW5 hI6 hF6 rfl, slE_ok hs6 hsl⟩, hz6, hd6, ?_, u3, u4, by simp only; omega⟩, by simp only; omega⟩
        simp only [u1, u2]
        rw [hvals, List.append_assoc]; rfl
      · refine ⟨false, rfl, ?_⟩
        refine wpIn_cond_true (by simp [Act.put, Act.eval, hz4]) (wpIn_ret ?_)
        simp only [Exit.then, Exit.inBlock, bodyPostM]
        simp only [put_defers, hd4]
        obtain ⟨v, hv⟩ := results_nil (P := Try.prog) (fn := Try.f59) (tmps := ((((a4.put (some 38) (.func (.yield l) #[] #[])).put (some 39) (.int .i64 x)).put (some 40) (.bool false)).put (some 41) (.bool !false)).tmps) (w := w5) Try.results59
        exact ⟨v, hv, _, rfl, .inr hZ⟩
    · simp only [Exit.then, Exit.inBlock, if_true, bodyPostM]
      obtain ⟨v, hv⟩ := results_nil (P := Try.prog) (fn := Try.f59) (tmps := a2.tmps) (w := w2) Try.results59
      rw [hd2]
      have hD : (brk a b).map (Value.int .i64) = D := by
        rw [q5, drop_none (by omega), drop_none (by omega)]
        cases n with
        | zero => simp [brkF]
        | succ n => simp [brkF]
      exact ⟨v, hv, _, rfl, .inl ⟨_, β2, T1, hD ▸ r2⟩⟩
end Go.Proofs.Ytekokeiajgcfkaa
