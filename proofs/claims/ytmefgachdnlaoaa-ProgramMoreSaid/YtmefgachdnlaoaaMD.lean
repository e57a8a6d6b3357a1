/- Programs whose rows lie anywhere, seen as programs that are only read; what Solve answers. -/
import Derived.Test.YtmefgachdnlaoaaMB
set_option maxRecDepth 100000
set_option linter.unusedSimpArgs false
set_option linter.unusedVariables false
namespace Go.Proofs.Ytmefgachdnlaoaa
open Go.RowKit Lp
theorem row_place {β : Bs} {H : List Ob} {w : World} (hI : Inv β H w) {j i k sz N ty : Nat} {ro : Bool} {len cap : Nat → Nat} {f : Nat → Nat → List SV} (hg : H[j]? = some ⟨ty, ro, .row sz N len cap f⟩) (hi : i < N) (hk : k < len i) :
    ∃ g b, β j i = some (g, b) ∧ g < w.heap.size ∧ (⟨ty, ro, .row sz N len cap f⟩ : Ob).mem i := by
  have ho := hI.ob j _ hg
  have key : ∃ g b, β j i = some (g, b) ∧ (⟨ty, ro, .row sz N len cap f⟩ : Ob).mem i := by
    cases ro with
    | true =>
      obtain ⟨g, b, h1, _⟩ := ho i hi k hk
      exact ⟨g, b, h1, hi, fun _ => by omega, fun h => by cases h⟩
    | false =>
      rcases ho i hi with ⟨h1, _⟩ | ⟨g, cur, h1, h2, _, h4, h6⟩
      · omega
      · exact ⟨g, 0, h1, hi, (fun h => by cases h), fun _ => by omega⟩
  obtain ⟨g, b, h1, h2⟩ := key
  exact ⟨g, b, h1, ho.block h2 h1, h2⟩
/-- A row that lies somewhere. -/
def Ld (H : List Ob) (x : SV) (n c : Nat) (a : Nat → Int) : Prop :=
  ∃ F p, x = .s F p 0 n c 1 ∧ (0 < n → ∃ ty ro N len cap f, H[F]? = some ⟨ty, ro, .row 1 N len cap f⟩ ∧ p < N ∧ n ≤ len p ∧ ∀ q, q < n → f p q = [.v (.int .i64 (a q))])
theorem ld_gives {β : Bs} {H : List Ob} {w : World} (hI : Inv β H w) {x : SV} {n c : Nat} {a : Nat → Int} (h : Ld H x n c a) {u : Value} (hu : Ok β x u) :
    ∃ (L : Option (Nat × Nat)) (A : Option Addr), u = .slice A n c ∧ n ≤ c ∧ (0 < c → ∃ g b, L = some (g, b) ∧ A = some ⟨g, b, none⟩) ∧
      (0 < n → ∃ g b, L = some (g, b) ∧ g < w.heap.size ∧ MemB β H g ∧ ∀ q, q < n → w.cell? ⟨g, b + q, none⟩ = some (.int .i64 (a q))) := by
  obtain ⟨F, p, rfl, h⟩ := h
  simp only [Ok] at hu
  obtain ⟨A, rfl, hle, h3⟩ := hu
  refine ⟨A.map fun a => (a.block, a.off), A, rfl, hle, fun hc => ?_, fun hy => ?_⟩
  · obtain ⟨g, b, _, rfl⟩ := h3 hc
    exact ⟨g, b + 0 * 1, rfl, rfl⟩
  · obtain ⟨ty, ro, N, len, cap, f, hg, hp, ho, hf⟩ := h hy
    obtain ⟨g, b, h4, rfl⟩ := h3 (by omega)
    obtain ⟨g', b', h5, h6, h7⟩ := row_place hI hg hp (k := 0) (by omega)
    rw [h4] at h5
    obtain ⟨rfl, rfl⟩ : g = g' ∧ b = b' := by simpa using h5
    refine ⟨g, b + 0 * 1, rfl, h6, ⟨F, p, _, b, hg, h7, h4⟩, fun q hq => ?_⟩
    have hct : (obAt H F).ct = .row 1 N len cap f := by rw [obAt_some hg]
    obtain ⟨u, h8, h9⟩ := row_cell hI hct hp (k := q) (c := 0) (by omega) h4 (x := .v (.int .i64 (a q))) (by rw [hf q hq]; rfl)
    simp only [Ok] at h9
    subst h9
    rw [← h8]
    congr 2
    omega
def Seen (β : Bs) (H : List Ob) (w : World) (q : Pm) (J t : Nat) (L : Option (Nat × Nat)) : Prop :=
  ∃ (g b : Nat) (A : Option Addr), β J 0 = some (g, b) ∧ w.cell? ⟨g, b + (t * 3 + 0), none⟩ = some (.slice A (q.ln t) (q.cp t)) ∧ w.cell? ⟨g, b + (t * 3 + 1), none⟩ = some (.int .i64 (q.kd t)) ∧ w.cell? ⟨g, b + (t * 3 + 2), none⟩ = some (.int .i64 (q.b t)) ∧ q.ln t ≤ q.cp t ∧ (0 < q.cp t → ∃ g b, L = some (g, b) ∧ A = some ⟨g, b, none⟩) ∧
    (0 < q.ln t → ∃ g b, L = some (g, b) ∧ g < w.heap.size ∧ MemB β H g ∧ ∀ k, k < q.ln t → w.cell? ⟨g, b + k, none⟩ = some (.int .i64 (q.a t k)))
theorem rows_places {β : Bs} {H : List Ob} {w : World} (hI : Inv β H w) {q : Pm} {J ty : Nat} {ro : Bool} {len cap : Nat → Nat} {f : Nat → Nat → List SV}
    (hJ : H[J]? = some ⟨ty, ro, .row 3 1 len cap f⟩) (hl : q.m ≤ len 0) (he : ∀ t, t < q.m → ∃ x, f 0 t = [x, .v (.int .i64 (q.kd t)), .v (.int .i64 (q.b t))] ∧ Ld H x (q.ln t) (q.cp t) (q.a t)) :
    ∃ L : Nat → Option (Nat × Nat), ∀ t, t < q.m → Seen β H w q J t (L t) := by
  have each : ∀ t, ∃ L : Option (Nat × Nat), t < q.m → Seen β H w q J t L := fun t => by
    by_cases ht : t < q.m
    · obtain ⟨x, hx, hld⟩ := he t ht
      obtain ⟨g, b, h4, h5, h6⟩ := row_place hI hJ (i := 0) (by omega) (k := t) (by omega)
      have hct : (obAt H J).ct = .row 3 1 len cap f := by rw [obAt_some hJ]
      obtain ⟨u, h8, h9⟩ := row_cell hI hct (i := 0) (by omega) (k := t) (c := 0) (by omega) h4 (x := x) (by rw [hx]; rfl)
      obtain ⟨u1, i8, i9⟩ := row_cell hI hct (i := 0) (by omega) (k := t) (c := 1) (by omega) h4 (x := .v (.int .i64 (q.kd t))) (by rw [hx]; rfl)
      obtain ⟨u2, j8, j9⟩ := row_cell hI hct (i := 0) (by omega) (k := t) (c := 2) (by omega) h4 (x := .v (.int .i64 (q.b t))) (by rw [hx]; rfl)
      simp only [Ok] at i9 j9
      subst i9 j9
      obtain ⟨L, A, rfl, q2, q3, q4⟩ := ld_gives hI hld h9
      exact ⟨L, fun _ => ⟨g, b, A, h4, h8, i8, j8, q2, q3, q4⟩⟩
    · exact ⟨none, fun h => absurd h ht⟩
  exact ⟨fun k => (each k).choose, fun k => (each k).choose_spec⟩
def rRwA (F : Nat) (q : Pm) : Ob := ⟨45, true, .row 3 1 (fun _ => q.m) (fun _ => q.mc) (fun _ t => [.s F t 0 (q.ln t) (q.cp t) 1, .v (.int .i64 (q.kd t)), .v (.int .i64 (q.b t))])⟩
def rAfA (q : Pm) : Ob := ⟨3, true, .row 1 q.m q.ln q.cp (fun t k => [.v (.int .i64 (q.a t k))])⟩
attribute [push_cast] rRwA rAfA
theorem wk_rows {H : List Ob} {J C : Nat} (q : Pm) {ty : Nat} {ro : Bool} {len cap : Nat → Nat} {f : Nat → Nat → List SV} (hro : roB H = true) (hC : C < H.length)
    (hJ : H[J]? = some ⟨ty, ro, .row 3 1 len cap f⟩) (hl : q.m ≤ len 0) (he : ∀ t, t < q.m → ∃ x, f 0 t = [x, .v (.int .i64 (q.kd t)), .v (.int .i64 (q.b t))] ∧ Ld H x (q.ln t) (q.cp t) (q.a t)) :
    Wk (α := List Value) H.length (fun β u => OkL β [.a [.s C 0 0 q.n q.nc 1, .s J 0 0 q.m q.mc 3]] u) (fun β u => OkL β [.a [.s C 0 0 q.n q.nc 1, .s H.length 0 0 q.m q.mc 3]] u) H (H ++ [rRwA (H.length + 1) q, rAfA q]) := by
  intro β w hI _
  obtain ⟨L, hL⟩ := rows_places hI hJ hl he
  let n := H.length
  have hnn : H.length = n := rfl
  let β' : Bs := fun j i => if j < n then β j i else if j = n then (if i = 0 then β J 0 else none) else if j = n + 1 then (if i < q.m then L i else none) else none
  have bo : ∀ j i, j < n → β' j i = β j i := fun j i hj => if_pos hj
  have b0 : β' n 0 = β J 0 := by
    show (if n < n then _ else if n = n then (if 0 = 0 then β J 0 else none) else _) = _
    rw [if_neg (by omega), if_pos rfl, if_pos rfl]
  have b0' : ∀ i, 1 ≤ i → β' n i = none := fun i hi => by
    show (if n < n then _ else if n = n then (if i = 0 then β J 0 else none) else _) = _
    rw [if_neg (by omega), if_pos rfl, if_neg (by omega)]
  have b1 : ∀ i, i < q.m → β' (n + 1) i = L i := fun i hi => by
    show (if n + 1 < n then _ else if n + 1 = n then _ else if n + 1 = n + 1 then (if i < q.m then L i else none) else none) = _
    rw [if_neg (by omega), if_neg (by omega), if_pos rfl, if_pos hi]
  have b1' : ∀ i, q.m ≤ i → β' (n + 1) i = none := fun i hi => by
    show (if n + 1 < n then _ else if n + 1 = n then _ else if n + 1 = n + 1 then (if i < q.m then L i else none) else none) = _
    rw [if_neg (by omega), if_neg (by omega), if_pos rfl, if_neg (by omega)]
  have b2 : ∀ j i, n + 2 ≤ j → β' j i = none := fun j i hj => by
    show (if j < n then _ else if j = n then _ else if j = n + 1 then _ else none) = _
    rw [if_neg (by omega), if_neg (by omega), if_neg (by omega)]
  have ble : BLe β β' := fun j i x h => by
    by_cases hj : j < n
    · rw [bo j i hj]; exact h
    · rw [hI.out j i (by omega)] at h; cases h
  have key : ∀ j o, (H ++ [rRwA (n + 1) q, rAfA q])[j]? = some o → (j < n ∧ H[j]? = some o) ∨ (j = n ∧ o = rRwA (n + 1) q) ∨ (j = n + 1 ∧ o = rAfA q) := fun j o h => by
    rcases Nat.lt_or_ge j n with h1 | h1
    · rw [List.getElem?_append_left h1] at h; exact .inl ⟨h1, h⟩
    · rw [List.getElem?_append_right h1] at h
      rcases (by omega : j = n ∨ j = n + 1 ∨ n + 2 ≤ j) with e | e | e
      · subst e
        rw [hnn, Nat.sub_self] at h
        exact .inr (.inl ⟨rfl, by simpa using h.symm⟩)
      · subst e
        rw [show n + 1 - H.length = 1 by omega] at h
        exact .inr (.inr ⟨rfl, by simpa using h.symm⟩)
      · rw [List.getElem?_eq_none (by simp; omega)] at h; cases h
  refine ⟨β', inv_ro (fun j o ho => ?_) (fun j i hj => b2 j i (by simp at hj; omega)) (fun j o i ho hov => ?_), fun u hu => ?_, fun j i x hj hx => by rw [bo j i hj]; exact hx, fun g hg => ?_, fun g hg => ?_, by simp⟩
  · rcases key j o ho with ⟨h1, h2⟩ | ⟨rfl, rfl⟩ | ⟨rfl, rfl⟩
    · refine ⟨?_, (hI.ob j o h2).same ble (fun i hi => by rw [bo j i h1]; exact hi) (Nat.le_refl _) fun _ _ _ _ _ => rfl⟩
      have : ∀ (H : List Ob), roB H = true → ∀ (j : Nat) (o : Ob), H[j]? = some o → o.ro = true := fun H => by
        induction H with
        | nil => intro _ j o h; simp at h
        | cons p l ih =>
          intro hr j o h
          simp only [roB, Bool.and_eq_true] at hr
          match j with
          | 0 => simp at h; subst h; exact hr.1
          | j + 1 => exact ih hr.2 j o (by simpa using h)
      exact this H hro j o h2
    · refine ⟨rfl, fun i hi k hk => ?_⟩
      obtain rfl : i = 0 := by omega
      have hk : k < q.m := hk
      obtain ⟨g, b, A, q1, q2, qk, qb, q3, q4, q5⟩ := hL k hk
      obtain ⟨g', b', h6, h7, _⟩ := row_place hI hJ (i := 0) (by omega) (k := k) (by omega)
      rw [q1] at h6
      obtain ⟨rfl, rfl⟩ : g = g' ∧ b = b' := by simpa using h6
      refine ⟨g, b, by rw [b0]; exact q1, h7, fun c x hx => ?_⟩
      match c with
      | 0 =>
        simp at hx; subst hx
        refine ⟨_, q2, ?_⟩
        simp only [Ok]
        refine ⟨A, rfl, q3, fun hc => ?_⟩
        obtain ⟨g1, bb, h8, rfl⟩ := q4 hc
        exact ⟨g1, bb, by rw [b1 k hk]; exact h8, by simp⟩
      | 1 =>
        simp at hx; subst hx
        exact ⟨_, qk, by simp only [Ok]⟩
      | 2 =>
        simp at hx; subst hx
        exact ⟨_, qb, by simp only [Ok]⟩
      | c + 3 => simp at hx
    · refine ⟨rfl, fun i hi k hk => ?_⟩
      have hi : i < q.m := hi
      have hk : k < q.ln i := hk
      obtain ⟨_, _, A, _, _, _, _, _, _, q5⟩ := hL i hi
      obtain ⟨g, b, h6, h7, _, h8⟩ := q5 (by omega)
      refine ⟨g, b, by rw [b1 i hi]; exact h6, h7, fun c x hx => ?_⟩
      match c with
      | 0 =>
        simp at hx; subst hx
        have h9 := h8 k hk
        rw [show b + k = b + (k * 1 + 0) by omega] at h9
        exact ⟨_, h9, by simp only [Ok]⟩
      | c + 1 => simp at hx
  · rcases key j o ho with ⟨h1, h2⟩ | ⟨rfl, rfl⟩ | ⟨rfl, rfl⟩
    · rw [bo j i h1]; exact hI.bey j o i h2 hov
    · exact b0' i hov
    · exact b1' i hov
  · simp only [OkL, Ok] at hu ⊢
    rw [show β' H.length 0 = β J 0 from b0, show β' C 0 = β C 0 from bo C 0 hC]
    exact hu
  · obtain ⟨j, i, o, b, ho, hown, hb⟩ := hg
    rcases key j o ho with ⟨h1, h2⟩ | ⟨rfl, rfl⟩ | ⟨rfl, rfl⟩
    · exact ⟨j, i, o, b, h2, hown, by rw [← bo j i h1]; exact hb⟩
    · cases hown.2.1
    · cases hown.2.1
  · obtain ⟨j, i, o, b, ho, hmem, hb⟩ := hg
    rcases key j o ho with ⟨h1, h2⟩ | ⟨rfl, rfl⟩ | ⟨rfl, rfl⟩
    · exact ⟨j, i, o, b, h2, hmem, by rw [← bo j i h1]; exact hb⟩
    · have hi : i < 1 := hmem.1
      obtain rfl : i = 0 := by omega
      have hn : 0 < q.m := hmem.2.1 rfl
      obtain ⟨g', b', h6, _, h7⟩ := row_place hI hJ (i := 0) (by omega) (k := 0) (by omega)
      rw [b0, h6] at hb
      obtain ⟨rfl, rfl⟩ : g' = g ∧ b' = b := by simpa using hb
      exact ⟨J, 0, _, _, hJ, h7, h6⟩
    · have hi : i < q.m := hmem.1
      have hn : 0 < q.ln i := hmem.2.1 rfl
      obtain ⟨_, _, A, _, _, _, _, _, _, q5⟩ := hL i hi
      obtain ⟨g', b', h6, _, h8, _⟩ := q5 hn
      rw [b1 i hi] at hb
      have : L i = some (g', b') := h6
      rw [this] at hb
      obtain ⟨rfl, rfl⟩ : g' = g ∧ b' = b := by simpa using hb
      exact h8
/- ===== Solve, in short ===== -/
def nilA (e : Int) : SV := .t [.a [.v (.int .i64 0), .v (.int .i64 0), .v (.slice none 0 0), .v (.slice none 0 0)], .v (.int .i64 e)]
def ansA (a b : Nat) (e N D : Int) (xl xc yl yc : Nat) : SV := .t [.a [.v (.int .i64 N), .v (.int .i64 D), .s a 0 0 xl xc 2, .s b 0 0 yl yc 2], .v (.int .i64 e)]
attribute [push_cast] nilA ansA
/-- What Solve answers: the error, the value; the rest where it matters. -/
inductive SolJ (p : Pm) (H0 : List Ob) (a b : Nat) : SV → List Ob → Prop
  | ok (e N D : Int) (xl xc yl yc d1 d2 : Nat) (X Y : Nat → Int) (h : OutP p e N D) (he : ¬ (e = 1 ∨ e = 5)) : SolJ p H0 a b (ansA a b e N D xl xc yl yc) (H0 ++ [oFr xl xc X d1, oFr yl yc Y d2])
  | bad (e : Int) (h : OutP p e 0 0) (he : e = 1 ∨ e = 5) : SolJ p H0 a b (nilA e) H0
theorem solveJ_sp (p : Pm) (hin : vPm p = true → PmOk p) (hl : ∀ t, t < p.m → p.ln t ≤ 1000000) (hn : p.n ≤ 1000000) (hm : p.m ≤ 1000000) : Sp Try.prog 21 [svP p] (obP p) (SolJ p (obP p) 3 4) := by
  refine sp_weak (sp_mono (solve_sp p hin hl hn hm) fun r H h => ?_)
  have gap : ∀ e, OutP p e 0 0 → ¬ (e = 1 ∨ e = 5) → ∃ r' H2 rl, mt rl r' (nilA e) ∧ (keepB 0 rl (obP p).length && nodupB (liveL rl H2) && Nat.beq rl.length H2.length) = true ∧ obsM rl (obP p) rl H2 ∧ SolJ p (obP p) 3 4 r' H2 := fun e h1 h2 => by
    refine ⟨_, _, [0, 1, 2, 1000, 1001], ?_, by kernel_rfl, ?_, .ok e 0 0 0 0 0 0 0 0 (fun _ => 0) (fun _ => 0) h1 h2⟩
    · simp only [push_cast, ↓branch_true, ↓branch_false, Nat.reduceBEq, Nat.reduceAdd, Nat.reduceMul, Nat.reduceSub, Int.reduceToNat, reduceCtorEq, Int.reduceAdd, Int.reduceEq, Int.reduceLE, Int.reduceLT, Nat.reduceLT, Nat.reduceLeDiff]
    · simp only [push_cast, ↓branch_true, ↓branch_false, Nat.reduceBEq, Nat.reduceAdd, Nat.reduceMul, Nat.reduceSub, Int.reduceToNat, reduceCtorEq, Int.reduceAdd, Int.reduceEq, Int.reduceLE, Int.reduceLT, Nat.reduceLT, Nat.reduceLeDiff]
      try omega
  cases h with
  | ok s cx cy hv hf hL _ _ =>
    refine ⟨_, _, [0, 1, 2, 3, 4], ?_, by kernel_rfl, ?_, .ok 0 _ _ p.n cx p.m cy s.d.toNat s.d.toNat (xvF p.R s p.m) (mulP p s) (.ok s hv hf hL) (by omega)⟩
    · simp only [push_cast, ↓branch_true, ↓branch_false, Nat.reduceBEq, Nat.reduceAdd, Nat.reduceMul, Nat.reduceSub, Int.reduceToNat, reduceCtorEq, Int.reduceAdd, Int.reduceEq, Int.reduceLE, Int.reduceLT, Nat.reduceLT, Nat.reduceLeDiff]
    · simp only [push_cast, ↓branch_true, ↓branch_false, Nat.reduceBEq, Nat.reduceAdd, Nat.reduceMul, Nat.reduceSub, Int.reduceToNat, reduceCtorEq, Int.reduceAdd, Int.reduceEq, Int.reduceLE, Int.reduceLT, Nat.reduceLT, Nat.reduceLeDiff]
  | bad e h =>
    rcases h with ⟨h, rfl⟩ | ⟨h, h2, rfl⟩ | ⟨h, h2, ⟨rfl, Y, hY⟩ | ⟨rfl, hF⟩⟩
    · refine ⟨_, _, [0, 1, 2], ?_, by kernel_rfl, ?_, .bad 1 (.arg h) (.inl rfl)⟩
      · simp only [push_cast, ↓branch_true, ↓branch_false, Nat.reduceBEq, Nat.reduceAdd, Nat.reduceMul, Nat.reduceSub, Int.reduceToNat, reduceCtorEq, Int.reduceAdd, Int.reduceEq, Int.reduceLE, Int.reduceLT, Nat.reduceLT, Nat.reduceLeDiff]
      · simp only [push_cast, ↓branch_true, ↓branch_false, Nat.reduceBEq, Nat.reduceAdd, Nat.reduceMul, Nat.reduceSub, Int.reduceToNat, reduceCtorEq, Int.reduceAdd, Int.reduceEq, Int.reduceLE, Int.reduceLT, Nat.reduceLT, Nat.reduceLeDiff]
    · refine ⟨_, _, [0, 1, 2], ?_, by kernel_rfl, ?_, .bad 5 (.big h h2) (.inr rfl)⟩
      · simp only [push_cast, ↓branch_true, ↓branch_false, Nat.reduceBEq, Nat.reduceAdd, Nat.reduceMul, Nat.reduceSub, Int.reduceToNat, reduceCtorEq, Int.reduceAdd, Int.reduceEq, Int.reduceLE, Int.reduceLT, Nat.reduceLT, Nat.reduceLeDiff]
      · simp only [push_cast, ↓branch_true, ↓branch_false, Nat.reduceBEq, Nat.reduceAdd, Nat.reduceMul, Nat.reduceSub, Int.reduceToNat, reduceCtorEq, Int.reduceAdd, Int.reduceEq, Int.reduceLE, Int.reduceLT, Nat.reduceLT, Nat.reduceLeDiff]
    · exact gap 22 (.gap h h2 Y hY) (by omega)
    · exact gap 21 (.free h h2 hF) (by omega)
end Go.Proofs.Ytmefgachdnlaoaa
