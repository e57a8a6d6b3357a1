/- The two worlds of pieces are one; the guards; the proof by prices. What the patterns of a right plan make: sureMade. verify.Cutting on a right plan. Plain: no proof by prices is above a right plan. TopCut: plain facts. -/
import Derived.Test.YtolioflblegneaaGreatXK
import Derived.Test.YtolioflblegneaaGreatMA
import Derived.Test.YtolioflblegneaaGreatBC
import Derived.Test.YtolioflblegneaaGreatI
set_option maxRecDepth 100000
set_option linter.unusedSimpArgs false
set_option linter.unusedVariables false
namespace Go.Proofs.YtolioflblegneaaGreat
open Go.RowKit
def toP (p : Pc) : Pat.Pc := ⟨p.len, p.cnt⟩
def toPL (l : List Pc) : List Pat.Pc := l.map toP
theorem toPL_len (l : List Pc) : (toPL l).length = l.length := List.length_map _
theorem toPL_ix (l : List Pc) (k : Nat) : ix (toPL l) k = toP (ix l k) := by
  rcases Nat.lt_or_ge k l.length with h | h
  · rw [ix_eq (by rw [toPL_len]; exact h), ix_eq h]
    exact List.getElem_map _
  · unfold ix
    rw [List.getD_eq_getElem?_getD, List.getD_eq_getElem?_getD, List.getElem?_eq_none (by rw [toPL_len]; exact h), List.getElem?_eq_none h]
    rfl
theorem rPc_to (l : List Pc) : Pat.rPc (toPL l) = rPc l := by
  unfold Pat.rPc rPc
  rw [toPL_len]
  congr 2
  funext _ k
  rw [toPL_ix]
  rfl
theorem bproves_sp (lim : Int) (l : List Pc) (c : Nat) (pr : List Int) (cp : Nat) (sc : Int) (hl : l.length ≤ 9223372036854775807) (hl2 : pr.length ≤ 9223372036854775807) : Sp Tryz.prog 53 [.v (.int .i64 lim), .s 0 0 0 l.length c 2, .s 1 0 0 pr.length cp 1, .v (.int .i64 sc)] [rPc l, rInt 3 pr]
    (fun r H => r = .t [.v (.int .i64 (Pat.provV lim (toPL l) pr sc)), .v (.int .i64 (Pat.provE lim (toPL l) pr sc))] ∧ H = [rPc l, rInt 3 pr]) := by
  have h := Pat.bproves_sp lim (toPL l) c pr cp sc (by rw [toPL_len]; exact hl) hl2
  rw [toPL_len, rPc_to] at h
  exact h
end Go.Proofs.YtolioflblegneaaGreat
namespace Go.Proofs.YtolioflblegneaaGreat
open Go.RowKit
set_option maxHeartbeats 8000000 in
theorem made_pu (s l : List Pc) (p : List Pt) (cp : Nat → Nat) (N c c3 : Nat) (G : Nat → List Int) (ho : orderB l = true) (h : rightB s l p = true) (hN : p.length ≤ N) (hG : ∀ k, k < p.length → G k = (ix p k).ps) :
    Pu Tryz.prog 15 [.s 0 0 0 l.length c 2, .s 1 0 0 p.length c3 3] [rPc l, rPt 2 p cp, rFm N G] (.v (.bool true)) := by
  obtain ⟨hp, hf, hm, _⟩ := right_yes.1 h
  have hpl := plan_len hp
  have hlen := order_len ho
  refine pu_of_ex true [(12, .pre [4] [0, 1, 2, 4, 5, 6, 7] (.one 3 (.one 8 (.one 9 (.one 10 .fin))))), (18, .pre [4] [0, 1, 2, 4, 5] (.one 3 (.one 6 .fin)))] mixed Tryz.call15 Tryz.func15 rfl Tryz.ntmps15 Tryz.results15 (by decide +kernel) rfl rfl rfl ?_
  refine sxo ?_
  try with_reducible exact trivial
  repeat (with_reducible refine And.intro (by omega) ?_)
  refine tr_loop mixed (by kernel_rfl) (fun (k : Nat) => [(17, .v (.int .i64 k)), (16, .v (.int .i64 p.length)), (15, .s 1 0 0 p.length c3 3), (5, .s 3 0 0 l.length l.length 1), (0, .s 0 0 0 l.length c 2)])
    (fun k => [rPc l, rPt 2 p cp, rFm N G, rOwn 3 l.length l.length (fun i => madeT p k i)]) (fun k => k ≤ p.length) (fun k => p.length - k) 0 (Nat.zero_le _) (Mt.wk (rl := [0, 1, 2, 3]) ⟨by kernel_rfl, ?_, ?_⟩) ?_
  · refine sxo ?_
    try with_reducible exact trivial
  · refine sxo ?_
    try with_reducible exact trivial
    exact fun _ _ q _ => by simp [madeT]
  intro k hk
  refine sxo ?_
  try with_reducible exact trivial
  refine ⟨fun b1 => ?_, fun b1 => ?_⟩
  · have hk2 : k < p.length := by omega
    obtain ⟨fl, fn⟩ := fit_at (hf k hk2)
    have hat := plan_at hp hk2
    have hGk := hG k hk2
    repeat (with_reducible refine And.intro (by omega) ?_)
    refine ⟨fun _ => ⟨fun h => by omega, fun _ => ⟨fun h => by omega, fun _ => ?_⟩⟩, fun h => absurd (by rw [fl]) h⟩
    refine tr_loop mixed (by kernel_rfl) (fun (t : Nat) => [(40, .v (.int .i64 t)), (39, .v (.int .i64 l.length)), (38, .s 2 k 0 l.length (cp k) 1), (7, .p 4 0 0), (17, .v (.int .i64 k)), (16, .v (.int .i64 p.length)), (15, .s 1 0 0 p.length c3 3), (5, .s 3 0 0 l.length l.length 1), (0, .s 0 0 0 l.length c 2)])
      (fun t => [rPc l, rPt 2 p cp, rFm N G, rOwn 3 l.length l.length (fun i => madeT p (bif decide (i < t) then k + 1 else k) i), ⟨63, true, .st (cPt 2 p cp k)⟩]) (fun t => t ≤ l.length) (fun t => l.length - t) 0 (Nat.zero_le _) (Mt.wk (rl := [0, 1, 2, 3, 4]) ⟨by kernel_rfl, ?_, ?_⟩) ?_
    · simp only [push_cast, ↓branch_true, ↓branch_false, Nat.reduceBEq, Nat.reduceAdd, Nat.reduceMul, Nat.reduceSub, Int.reduceToNat, reduceCtorEq, branch_decide, branch_not, branch_beq, branch_bne, fl]
    · simp only [push_cast, ↓branch_true, ↓branch_false, Nat.reduceBEq, Nat.reduceAdd, Nat.reduceMul, Nat.reduceSub, Int.reduceToNat, reduceCtorEq, branch_decide, branch_not, branch_beq, branch_bne, fl]
      try exact fun x hx q hq => by simp
    intro t ht
    simp only [push_cast, ↓branch_true, ↓branch_false, Nat.reduceBEq, Nat.reduceAdd, Nat.reduceMul, Nat.reduceSub, Int.reduceToNat, reduceCtorEq, branch_decide, branch_not, branch_beq, branch_bne, hGk, fl]
    refine ⟨fun b1 => ?_, fun b1 => ?_⟩
    · have ht2 : t < l.length := by omega
      have hnt := fn t ht2
      have h4 := order_at ho ht2
      have hmr := made_range ho hp ht2 k hk (fun q hq => hf q (by omega))
      have hmr2 := made_range ho hp ht2 (k + 1) (by omega) (fun q hq => hf q (by omega))
      have hmm := mul_le hnt.1 (show ix (ix p k).ps t ≤ 1000000 by omega) (show 0 ≤ (ix p k).times by omega) hat.2.2.2
      have e1 := madeT_succ (i := t) hk2
      have hb0 : decide (t < t) = false := by simp
      simp only [hb0, cond_false]
      repeat (with_reducible refine And.intro (by omega) ?_)
      refine fun _ => ⟨fun h => by omega, fun _ => ?_⟩
      repeat (with_reducible refine And.intro (by omega) ?_)
      refine lpK_normal (t + 1) [0, 1, 2, 3, 4] (by omega) (by omega) (by kernel_rfl) ?_ ?_
      · simp only [push_cast, ↓branch_true, ↓branch_false, Nat.reduceBEq, Nat.reduceAdd, Nat.reduceMul, Nat.reduceSub, Int.reduceToNat, reduceCtorEq, branch_decide, branch_not, branch_beq, branch_bne, fl]
      · simp only [push_cast, ↓branch_true, ↓branch_false, Nat.reduceBEq, Nat.reduceAdd, Nat.reduceMul, Nat.reduceSub, Int.reduceToNat, reduceCtorEq, branch_decide, branch_not, branch_beq, branch_bne, fl]
        intro x hx q hq
        obtain rfl : x = 0 := by omega
        by_cases eq : q = t
        · subst eq
          have hb2 : decide (q < q + 1) = true := by simp
          simp only [push_cast, ↓branch_true, ↓branch_false, Nat.reduceBEq, Nat.reduceAdd, Nat.reduceMul, Nat.reduceSub, Int.reduceToNat, reduceCtorEq, branch_decide, branch_not, branch_beq, branch_bne, hb2, e1]
        · have hb : (q == t) = false := by simpa using eq
          by_cases e2 : q < t
          · have hb2 : decide (q < t + 1) = true := by simp; omega
            have hb3 : decide (q < t) = true := by simp; omega
            simp only [push_cast, ↓branch_true, ↓branch_false, Nat.reduceBEq, Nat.reduceAdd, Nat.reduceMul, Nat.reduceSub, Int.reduceToNat, reduceCtorEq, branch_decide, branch_not, branch_beq, branch_bne, hb, hb2, hb3]
          · have hb2 : decide (q < t + 1) = false := by simp; omega
            have hb3 : decide (q < t) = false := by simp; omega
            simp only [push_cast, ↓branch_true, ↓branch_false, Nat.reduceBEq, Nat.reduceAdd, Nat.reduceMul, Nat.reduceSub, Int.reduceToNat, reduceCtorEq, branch_decide, branch_not, branch_beq, branch_bne, hb, hb2, hb3]
    · have e : t = l.length := by omega
      subst e
      repeat (with_reducible refine And.intro (by omega) ?_)
      refine lpK_normal (k + 1) [0, 1, 2, 3] (by omega) (by omega) (by kernel_rfl) ?_ ?_
      · refine sxo ?_
        try with_reducible exact trivial
      · refine sxo ?_
        try with_reducible exact trivial
        refine fun x hx q hq => ?_
        have hb3 : decide (q < l.length) = true := by simp; omega
        simp only [push_cast, ↓branch_true, ↓branch_false, Nat.reduceBEq, Nat.reduceAdd, Nat.reduceMul, Nat.reduceSub, Int.reduceToNat, reduceCtorEq, branch_decide, branch_not, branch_beq, branch_bne, hb3]
  · have e : k = p.length := by omega
    subst e
    refine tr_loop mixed (by kernel_rfl) (fun (i : Nat) => [(65, .v (.int .i64 i)), (64, .v (.int .i64 l.length)), (63, .s 0 0 0 l.length c 2), (5, .s 3 0 0 l.length l.length 1)])
      (fun _ => [rPc l, rPt 2 p cp, rFm N G, rOwn 3 l.length l.length (fun i => madeT p p.length i)]) (fun i => i ≤ l.length) (fun i => l.length - i) 0 (Nat.zero_le _) (Mt.wk (rl := [0, 1, 2, 3]) ⟨by kernel_rfl, ?_, ?_⟩) ?_
    · refine sxo ?_
      try with_reducible exact trivial
    · refine sxo ?_
      try with_reducible exact trivial
    intro i hi
    refine sxo ?_
    try with_reducible exact trivial
    intro b1
    have hi2 : i < l.length := by omega
    have hmi := hm i hi2
    rw [hmi]
    repeat (with_reducible refine And.intro (by omega) ?_)
    refine ⟨fun _ => ?_, fun h => absurd rfl h⟩
    repeat (with_reducible refine And.intro (by omega) ?_)
    refine lpK_normal (i + 1) [0, 1, 2, 3] (by omega) (by omega) (by kernel_rfl) ?_ ?_
    · refine sxo ?_
      try with_reducible exact trivial
    · refine sxo ?_
      try with_reducible exact trivial
end Go.Proofs.YtolioflblegneaaGreat
namespace Go.Proofs.YtolioflblegneaaGreat
open Go.RowKit
def clB (lim : Int) (l : List Pc) (p : List Pt) (pr : List Int) (sc : Int) : Bool := decide (Pat.provE lim (toPL l) pr sc = 0) && decide (timesT p p.length = Pat.provV lim (toPL l) pr sc)
def HV (lim : Int) (l : List Pc) (p : List Pt) (cp : Nat → Nat) (N c c3 : Nat) (G : Nat → List Int) (pr : List Int) (cq : Nat) (sc : Int) : List Ob :=
  [rPc l, rPt 2 p cp, rFm N G, rInt 3 pr, ⟨3, true, .st [.v (.int .i64 lim)]⟩, ⟨22, true, .st [.s 0 0 0 l.length c 2]⟩, ⟨30, true, .st [.s 1 0 0 p.length c3 3]⟩, ⟨23, true, .st [.s 3 0 0 pr.length cq 1]⟩, ⟨3, true, .st [.v (.int .i64 sc)]⟩, rSt (lotS lim), ⟨29, true, .st [.s 9 0 0 1 1 2]⟩]
attribute [push_cast] HV
def f50 : SV := .f (.func 50) [] [.p 10 0 0, .p 5 0 0, .p 6 0 0]
def f52 : SV := .f (.func 52) [] [.p 10 0 0, .p 6 0 0, .p 4 0 0, .p 5 0 0, .p 7 0 0, .p 8 0 0]
attribute [push_cast] f50 f52
theorem yes_pu (a : Bool) (e : Int) : Pu Tryz.prog 51 [.v (.bool a), .v (.int .i64 e)] [] (.v (.bool (a && decide (e = 0)))) := by
  cases a
  · refine pu_of_ex true [] mixed Tryz.call51 Tryz.func51 rfl Tryz.ntmps51 Tryz.results51 (by decide +kernel) rfl rfl rfl ?_
    refine sxq ?_
    try with_reducible exact trivial
  · refine pu_of_ex true [] mixed Tryz.call51 Tryz.func51 rfl Tryz.ntmps51 Tryz.results51 (by decide +kernel) rfl rfl rfl ?_
    refine sxq ?_
    try with_reducible exact trivial
    rw [beq_dec]
set_option maxHeartbeats 4000000 in
theorem cl50_pu (lim : Int) (l : List Pc) (p : List Pt) (cp : Nat → Nat) (N c c3 : Nat) (G : Nat → List Int) (pr : List Int) (cq : Nat) (sc : Int) (hl : l.length ≤ 9223372036854775807) (ho : orderB l = true) (h1 : 1 ≤ lim) (h2 : lim ≤ 1048576) (hr : rightB (lotS lim) l p = true) (hN : p.length ≤ N) (hG : ∀ k, k < p.length → G k = (ix p k).ps) (hg : ∀ k, k < p.length → (ix p k).ps.length ≤ 9223372036854775806) (hpl : p.length ≤ 9223372036854775807) :
    Pu Tryz.prog 50 [.p 10 0 0, .p 5 0 0, .p 6 0 0] (HV lim l p cp N c c3 G pr cq sc) (.v (.bool true)) := by
  have hc := check_pu (lotS lim) l p cp N 1 c c3 G (by show (1 : Nat) ≤ 9223372036854775807; decide) hl hN hG hg hpl
  rw [stB_lots h1 h2, ho, hr] at hc
  refine pu_of_ex true [] mixed Tryz.call50 Tryz.func50 rfl Tryz.ntmps50 Tryz.results50 (by decide +kernel) rfl rfl rfl ?_
  refine sxq ?_
  try with_reducible exact trivial
  refine sp_call (by simpa only [push_cast] using hc) rfl [9, 0, 1, 2] rfl ?_ ?_ ?_
  · refine sxq ?_
    try with_reducible exact trivial
    rfl
  · refine sxq ?_
    try with_reducible exact trivial
  refine sxq ?_
  try with_reducible exact trivial
  refine sp_c (yes_pu true 0) rfl [] ?_
  refine sxq ?_
  try with_reducible exact trivial
  rfl
set_option maxHeartbeats 4000000 in
theorem cl52_pu (lim : Int) (l : List Pc) (p : List Pt) (cp : Nat → Nat) (N c c3 : Nat) (G : Nat → List Int) (pr : List Int) (cq : Nat) (sc : Int) (hl : l.length ≤ 9223372036854775807) (h1 : 1 ≤ lim) (h2 : lim ≤ 1048576) (hr : rightB (lotS lim) l p = true) (hpl : p.length ≤ 9223372036854775807) (hpr : pr.length ≤ 9223372036854775807) :
    Pu Tryz.prog 52 [.p 10 0 0, .p 6 0 0, .p 4 0 0, .p 5 0 0, .p 7 0 0, .p 8 0 0] (HV lim l p cp N c c3 G pr cq sc) (.v (.bool (clB lim l p pr sc))) := by
  have hc := used_pu (lotS lim) p cp N 1 c3 G (by show (1 : Nat) ≤ 9223372036854775807; decide) hpl
  have hb := bproves_sp lim l c pr cq sc hl hpr
  have hp := (right_yes.1 hr).1
  have he : usedE (lotS lim) p = 0 := by
    simp only [usedE, stB_lots h1 h2, hp]; rfl
  have hn : usedN (lotS lim) p = timesT p p.length := by
    unfold usedN; rw [if_pos he]
  rw [he, hn] at hc
  unfold clB
  refine pu_of_ex true [] mixed Tryz.call52 Tryz.func52 rfl Tryz.ntmps52 Tryz.results52 (by decide +kernel) rfl rfl rfl ?_
  refine sxq ?_
  try with_reducible exact trivial
  refine sp_call (by simpa only [push_cast] using hc) rfl [9, 1, 2] rfl ?_ ?_ ?_
  · refine sxq ?_
    try with_reducible exact trivial
    rfl
  · refine sxq ?_
    try with_reducible exact trivial
  refine sxq ?_
  try with_reducible exact trivial
  refine sp_at hb [0, 3] (by kernel_rfl) ?_ ?_ ?_
  · refine sxq ?_
    try with_reducible exact trivial
  · refine sxq ?_
    try with_reducible exact trivial
  rintro _ _ ⟨rfl, rfl⟩
  refine sxq ?_
  try with_reducible exact trivial
  exact ⟨fun h => by rw [beq_dec, h]; simp, fun h => by simp [h]⟩
theorem all50_pu (lim : Int) (l : List Pc) (p : List Pt) (cp : Nat → Nat) (N c c3 : Nat) (G : Nat → List Int) (pr : List Int) (cq : Nat) (sc : Int) (hl : l.length ≤ 9223372036854775807) (ho : orderB l = true) (h1 : 1 ≤ lim) (h2 : lim ≤ 1048576) (hr : rightB (lotS lim) l p = true) (hN : p.length ≤ N) (hG : ∀ k, k < p.length → G k = (ix p k).ps) (hg : ∀ k, k < p.length → (ix p k).ps.length ≤ 9223372036854775806) (hpl : p.length ≤ 9223372036854775807) (hpr : pr.length ≤ 9223372036854775807) :
    Pu Tryz.prog 92 [f50] (HV lim l p cp N c c3 G pr cq sc) (.v (.bool false)) := by
  have h := cl50_pu lim l p cp N c c3 G pr cq sc hl ho h1 h2 hr hN hG hg hpl
  refine pu_of_ex true [] mixed Tryz.call92 Tryz.func92 rfl Tryz.ntmps92 Tryz.results92 (by decide +kernel) rfl rfl rfl ?_
  refine sxq ?_
  try with_reducible exact trivial
  refine sp_pu (by simpa only [push_cast] using h) ?_
  refine sxq ?_
  try with_reducible exact trivial
theorem all52_pu (lim : Int) (l : List Pc) (p : List Pt) (cp : Nat → Nat) (N c c3 : Nat) (G : Nat → List Int) (pr : List Int) (cq : Nat) (sc : Int) (hl : l.length ≤ 9223372036854775807) (ho : orderB l = true) (h1 : 1 ≤ lim) (h2 : lim ≤ 1048576) (hr : rightB (lotS lim) l p = true) (hN : p.length ≤ N) (hG : ∀ k, k < p.length → G k = (ix p k).ps) (hg : ∀ k, k < p.length → (ix p k).ps.length ≤ 9223372036854775806) (hpl : p.length ≤ 9223372036854775807) (hpr : pr.length ≤ 9223372036854775807) :
    Pu Tryz.prog 92 [f52] (HV lim l p cp N c c3 G pr cq sc) (.v (.bool (!clB lim l p pr sc))) := by
  have h := cl52_pu lim l p cp N c c3 G pr cq sc hl h1 h2 hr hpl hpr
  obtain ⟨b, hb⟩ : ∃ b, clB lim l p pr sc = b := ⟨_, rfl⟩
  rw [hb] at h ⊢
  refine pu_of_ex true [] mixed Tryz.call92 Tryz.func92 rfl Tryz.ntmps92 Tryz.results92 (by decide +kernel) rfl rfl rfl ?_
  refine sxq ?_
  try with_reducible exact trivial
  refine sp_pu (by simpa only [push_cast] using h) ?_
  refine sxq ?_
  try with_reducible exact trivial
def rFs : Ob := ⟨24, true, .row 1 1 (fun _ => 2) (fun _ => 0) (fun _ q => bif q == 0 then [f50] else [f52])⟩
attribute [push_cast] rFs
set_option maxHeartbeats 4000000 in
theorem idxf_pu (lim : Int) (l : List Pc) (p : List Pt) (cp : Nat → Nat) (N c c3 : Nat) (G : Nat → List Int) (pr : List Int) (cq : Nat) (sc : Int) (hl : l.length ≤ 9223372036854775807) (ho : orderB l = true) (h1 : 1 ≤ lim) (h2 : lim ≤ 1048576) (hr : rightB (lotS lim) l p = true) (hN : p.length ≤ N) (hG : ∀ k, k < p.length → G k = (ix p k).ps) (hg : ∀ k, k < p.length → (ix p k).ps.length ≤ 9223372036854775806) (hpl : p.length ≤ 9223372036854775807) (hpr : pr.length ≤ 9223372036854775807) :
    Pu Tryz.prog 127 [.s 11 0 0 2 2 1, .f (.func 92) [] []] (HV lim l p cp N c c3 G pr cq sc ++ [rFs]) (.v (.int .i64 (bif clB lim l p pr sc then -1 else 1))) := by
  have ha := all50_pu lim l p cp N c c3 G pr cq sc hl ho h1 h2 hr hN hG hg hpl hpr
  have hb := all52_pu lim l p cp N c c3 G pr cq sc hl ho h1 h2 hr hN hG hg hpl hpr
  refine pu_of_ex true [] mixed Tryz.call127 Tryz.func127 rfl Tryz.ntmps127 Tryz.results127 (by decide +kernel) rfl rfl rfl ?_
  refine sxq ?_
  try with_reducible exact trivial
  obtain ⟨b, hcb⟩ : ∃ b, clB lim l p pr sc = b := ⟨_, rfl⟩
  rw [hcb] at hb ⊢
  refine tr_un mixed (by kernel_rfl) ?_
  refine sxq ?_
  try with_reducible exact trivial
  refine sp_call (by simpa only [push_cast] using ha) rfl [0, 1, 2, 3, 4, 5, 6, 7, 8, 9, 10] rfl ?_ ?_ ?_
  · refine sxq ?_
    try with_reducible exact trivial
  · refine sxq ?_
    try with_reducible exact trivial
  refine sxq ?_
  try with_reducible exact trivial
  refine tl_un mixed (by kernel_rfl) ?_
  refine sxq ?_
  try with_reducible exact trivial
  refine sp_call (by simpa only [push_cast] using hb) rfl [0, 1, 2, 3, 4, 5, 6, 7, 8, 9, 10] rfl ?_ ?_ ?_
  · refine sxq ?_
    try with_reducible exact trivial
  · refine sxq ?_
    try with_reducible exact trivial
  refine sxq ?_
  try with_reducible exact trivial
  cases b
  · refine sxq ?_
    try with_reducible exact trivial
    try rfl
  · refine sxq ?_
    try with_reducible exact trivial
    refine tl_un mixed (by kernel_rfl) ?_
    refine sxq ?_
    try with_reducible exact trivial
theorem conf_pu (lim : Int) (l : List Pc) (p : List Pt) (cp : Nat → Nat) (N c c3 : Nat) (G : Nat → List Int) (pr : List Int) (cq : Nat) (sc : Int) (hl : l.length ≤ 9223372036854775807) (ho : orderB l = true) (h1 : 1 ≤ lim) (h2 : lim ≤ 1048576) (hr : rightB (lotS lim) l p = true) (hN : p.length ≤ N) (hG : ∀ k, k < p.length → G k = (ix p k).ps) (hg : ∀ k, k < p.length → (ix p k).ps.length ≤ 9223372036854775806) (hpl : p.length ≤ 9223372036854775807) (hpr : pr.length ≤ 9223372036854775807) :
    Pu Tryz.prog 91 [.s 11 0 0 2 2 1, .f (.func 92) [] []] (HV lim l p cp N c c3 G pr cq sc ++ [rFs]) (.v (.bool (!clB lim l p pr sc))) := by
  have h := idxf_pu lim l p cp N c c3 G pr cq sc hl ho h1 h2 hr hN hG hg hpl hpr
  obtain ⟨b, hcb⟩ : ∃ b, clB lim l p pr sc = b := ⟨_, rfl⟩
  rw [hcb] at h ⊢
  cases b
  · refine pu_of_ex true [] mixed Tryz.call91 Tryz.func91 rfl Tryz.ntmps91 Tryz.results91 (by decide +kernel) rfl rfl rfl ?_
    refine sxq ?_
    try with_reducible exact trivial
    refine sp_pu (by simpa only [push_cast] using h) ?_
    refine sxq ?_
    try with_reducible exact trivial
    rfl
  · refine pu_of_ex true [] mixed Tryz.call91 Tryz.func91 rfl Tryz.ntmps91 Tryz.results91 (by decide +kernel) rfl rfl rfl ?_
    refine sxq ?_
    try with_reducible exact trivial
    refine sp_pu (by simpa only [push_cast] using h) ?_
    refine sxq ?_
    try with_reducible exact trivial
    rfl
theorem vall_pu (lim : Int) (l : List Pc) (p : List Pt) (cp : Nat → Nat) (N c c3 : Nat) (G : Nat → List Int) (pr : List Int) (cq : Nat) (sc : Int) (hl : l.length ≤ 9223372036854775807) (ho : orderB l = true) (h1 : 1 ≤ lim) (h2 : lim ≤ 1048576) (hr : rightB (lotS lim) l p = true) (hN : p.length ≤ N) (hG : ∀ k, k < p.length → G k = (ix p k).ps) (hg : ∀ k, k < p.length → (ix p k).ps.length ≤ 9223372036854775806) (hpl : p.length ≤ 9223372036854775807) (hpr : pr.length ≤ 9223372036854775807) :
    Pu Tryz.prog 49 [.s 11 0 0 2 2 1] (HV lim l p cp N c c3 G pr cq sc ++ [rFs]) (.v (.bool (clB lim l p pr sc))) := by
  have h := conf_pu lim l p cp N c c3 G pr cq sc hl ho h1 h2 hr hN hG hg hpl hpr
  obtain ⟨b, hcb⟩ : ∃ b, clB lim l p pr sc = b := ⟨_, rfl⟩
  rw [hcb] at h ⊢
  refine pu_of_ex true [] mixed Tryz.call49 Tryz.func49 rfl Tryz.ntmps49 Tryz.results49 (by decide +kernel) rfl rfl rfl ?_
  refine sxq ?_
  try with_reducible exact trivial
  refine sp_pu (by simpa only [push_cast] using h) ?_
  refine sxq ?_
  try with_reducible exact trivial
  rw [Bool.not_not]
set_option maxHeartbeats 4000000 in
theorem cutv_pu (lim : Int) (l : List Pc) (p : List Pt) (cp : Nat → Nat) (N c c3 : Nat) (G : Nat → List Int) (pr : List Int) (cq : Nat) (sc : Int) (hl : l.length ≤ 9223372036854775807) (ho : orderB l = true) (h1 : 1 ≤ lim) (h2 : lim ≤ 1048576) (hr : rightB (lotS lim) l p = true) (hN : p.length ≤ N) (hG : ∀ k, k < p.length → G k = (ix p k).ps) (hg : ∀ k, k < p.length → (ix p k).ps.length ≤ 9223372036854775806) (hpl : p.length ≤ 9223372036854775807) (hpr : pr.length ≤ 9223372036854775807) :
    Pu Tryz.prog 17 [.v (.int .i64 lim), .s 0 0 0 l.length c 2, .s 1 0 0 p.length c3 3, .s 3 0 0 pr.length cq 1, .v (.int .i64 sc)] [rPc l, rPt 2 p cp, rFm N G, rInt 3 pr] (.t [.v (.bool (clB lim l p pr sc)), .v (.int .i64 0)]) := by
  have h := vall_pu lim l p cp N c c3 G pr cq sc hl ho h1 h2 hr hN hG hg hpl hpr
  have hor := order_pu l c hl
  rw [ho] at hor
  obtain ⟨b, hcb⟩ : ∃ b, clB lim l p pr sc = b := ⟨_, rfl⟩
  rw [hcb] at h ⊢
  refine pu_of_ex true [] mixed Tryz.call17 Tryz.func17 rfl Tryz.ntmps17 Tryz.results17 (by decide +kernel) rfl rfl rfl ?_
  refine sxq ?_
  try with_reducible exact trivial
  refine sp_c (hor) rfl [0] ?_
  refine sxq ?_
  try with_reducible exact trivial
  refine ⟨fun h => by omega, fun _ => ⟨fun h => by omega, fun _ => ?_⟩⟩
  refine sp_call (by simpa only [push_cast] using h) rfl [0, 1, 2, 3, 4, 5, 6, 7, 8, 9, 10, 11] rfl ?_ ?_ ?_
  · refine sxq ?_
    try with_reducible exact trivial
  · refine sxq ?_
    try with_reducible exact trivial
    refine ⟨fun _ _ => ⟨Nat.le_refl _, fun k hk => ?_⟩, fun _ _ k hk => ?_⟩
    · have hk2 : k < 1 := hk
      have e : k = 0 := Nat.lt_one_iff.mp hk2
      subst e
      exact ⟨rfl, rfl, trivial⟩
    · (obtain e | e : k = 0 ∨ k = 1 := by omega) <;> subst e <;> ((simp only [push_cast, ↓branch_true, ↓branch_false, Nat.reduceBEq, Nat.reduceAdd, Nat.reduceMul, Nat.reduceSub, Int.reduceToNat, reduceCtorEq, Int.reduceAdd, Int.reduceEq, Int.reduceLE, Int.reduceLT, Nat.reduceLT, Nat.reduceLeDiff]))
  refine sxq ?_
  try with_reducible exact trivial
end Go.Proofs.YtolioflblegneaaGreat
namespace Go.Proofs.YtolioflblegneaaGreat.Pat
open Go.RowKit
theorem upR_le {a m q : Int} (h0 : 0 ≤ a) (hm : 1 ≤ m) (h : a ≤ m * q) : upR a m ≤ q := by
  unfold upR
  rw [Int.tdiv_eq_ediv_of_nonneg (by omega)]
  have h1 : (a + m - 1) / m < q + 1 := by
    rw [Int.ediv_lt_iff_lt_mul (by omega), Int.add_mul, Int.mul_comm q m]
    omega
  omega
def wN (W : Nat → Int) (ns : List Int) : Nat → Int
  | 0 => 0
  | j + 1 => wN W ns j + ix ns j * W j
theorem wN_cons (W : Nat → Int) (x : Int) (ns : List Int) : ∀ j, wN W (x :: ns) (j + 1) = x * W 0 + wN (fun k => W (k + 1)) ns j
  | 0 => by
    show 0 + x * W 0 = x * W 0 + 0
    omega
  | j + 1 => by
    have ih := wN_cons W x ns j
    show wN W (x :: ns) (j + 1) + ix ns j * W (j + 1) = x * W 0 + (wN (fun k => W (k + 1)) ns j + ix ns j * W (j + 1))
    rw [ih, Int.add_assoc]
theorem price_wN : ∀ {ns pr : List Int}, pr.length = ns.length → priceL ns pr = wN (ix pr) ns ns.length
  | [], [], _ => rfl
  | [], _ :: _, h => by simp at h
  | _ :: _, [], h => by simp at h
  | n :: ns, x :: pr, h => by
    have ih := price_wN (ns := ns) (pr := pr) (by simpa using h)
    rw [List.length_cons, wN_cons]
    simp only [priceL, ih]
    rfl
theorem pick_ge (pr : List Int) : ∀ (E : List (List Int)) (s : Bst), s.2 ≤ (E.foldl (pickB [] 0 pr) s).2 ∧ ∀ q ∈ E, priceL q pr ≤ (E.foldl (pickB [] 0 pr) s).2
  | [], s => ⟨Int.le_refl _, fun q h => by cases h⟩
  | a :: E, s => by
    have ih := pick_ge pr E (pickB [] 0 pr s a)
    have h0 : s.2 ≤ (pickB [] 0 pr s a).2 ∧ priceL a pr ≤ (pickB [] 0 pr s a).2 := by
      unfold pickB
      split
      · simp only; omega
      · omega
    rw [List.foldl_cons]
    refine ⟨Int.le_trans h0.1 ih.1, fun q hq => ?_⟩
    rcases List.mem_cons.1 hq with rfl | hq
    · exact Int.le_trans h0.2 ih.1
    · exact ih.2 q hq
theorem prov_0 {lim : Int} {l : List Pc} {pr : List Int} {sc : Int} (h : provE lim l pr sc = 0) : givE lim l = 0 ∧ pr.length = l.length ∧ (1 ≤ sc ∧ sc ≤ 1073741824) ∧ pr.any badP = false ∧ l.length ≤ 10 ∧ (bestS lim l pr).2 ≤ sc := by
  unfold provE at h
  split at h
  · omega
  · split at h
    · omega
    · split at h
      · omega
      · split at h
        · omega
        · split at h
          · omega
          · rename_i a b c d e
            refine ⟨by omega, by omega, by omega, ?_, by omega, by omega⟩
            cases hb : pr.any badP with
            | false => rfl
            | true => exact absurd (Or.inr hb) c
/-- No pattern that fits has a price above the dearest one's. -/
theorem price_best {lim : Int} {l : List Pc} {pr : List Int} (hg : givE lim l = 0) (hl : pr.length = l.length) (hp : pr.any badP = false) (h10 : l.length ≤ 10) {ns : List Int} (h1 : ns.length = l.length) (h2 : inB l ns = true) (h3 : sumL l ns ≤ lim) : priceL ns pr ≤ (bestS lim l pr).2 := by
  obtain ⟨ho, g1, g2, g3⟩ := givE_0 hg
  have hE : bestE lim l pr = 0 := by
    have : givenE lim l pr.length = 0 := by
      unfold givenE
      rw [if_neg (by rw [ho]; simp), if_neg (by omega), if_pos (by rw [hl])]
    unfold bestE
    rw [if_neg (by omega), if_neg (by rw [hp]; simp), if_neg (by omega)]
  have hpos : PosL l := fun p hp => by have := order_pos ho p hp; exact ⟨this.1, by omega⟩
  rw [bestS_fold ho (by omega) hl (fun x hx => by
    obtain ⟨k, hk, rfl⟩ := List.getElem_of_mem hx
    have := price_at hp hk
    rw [ix_eq hk] at this
    exact this.1) hE]
  exact (pick_ge pr _ _).2 _ ((mem_eachG hpos (by omega)).2 ⟨h1, h2, h3⟩)
end Go.Proofs.YtolioflblegneaaGreat.Pat
namespace Go.Proofs.YtolioflblegneaaGreat
open Go.RowKit
theorem inB_to : ∀ {l : List Pc} {ns : List Int}, okN l ns = true → Pat.inB (toPL l) ns = true
  | [], _, _ => rfl
  | _ :: _, [], _ => rfl
  | p :: l, n :: ns, h => by
    simp only [okN, Bool.and_eq_true, decide_eq_true_eq] at h
    have ih := inB_to (l := l) (ns := ns) h.2
    show Pat.inB (toP p :: toPL l) (n :: ns) = true
    simp only [Pat.inB, ih, Bool.and_true, Bool.and_eq_true, decide_eq_true_eq]
    exact h.1
theorem sumL_to : ∀ (l : List Pc) (ns : List Int), Pat.sumL (toPL l) ns = dotL l ns
  | [], ns => by cases ns <;> rfl
  | _ :: _, [] => rfl
  | p :: l, n :: ns => by
    have ih := sumL_to l ns
    show Pat.sumL (toP p :: toPL l) (n :: ns) = dotL (p :: l) (n :: ns)
    simp only [Pat.sumL, dotL, ih, Int.mul_comm n]
    rfl
def sMd (q : List Pt) (pr : List Int) (m : Nat) : Nat → Int
  | 0 => 0
  | n + 1 => sMd q pr m n + madeT q m n * ix pr n
theorem sMd_0 (q : List Pt) (pr : List Int) : ∀ n, sMd q pr 0 n = 0
  | 0 => rfl
  | n + 1 => by
    rw [sMd, sMd_0 q pr n]
    simp [madeT]
theorem sMd_succ {q : List Pt} {pr : List Int} {m : Nat} (hm : m < q.length) : ∀ n, sMd q pr (m + 1) n = sMd q pr m n + Pat.wN (ix pr) (ix q m).ps n * (ix q m).times
  | 0 => by simp [sMd, Pat.wN]
  | n + 1 => by
    rw [sMd, sMd, Pat.wN, sMd_succ hm n, madeT_succ hm, Int.add_mul, Int.add_mul, Int.mul_right_comm (ix (ix q m).ps n)]
    omega
theorem sMd_le {q : List Pt} {pr : List Int} {sc : Int} {n : Nat} (h : ∀ j, j < q.length → Pat.wN (ix pr) (ix q j).ps n ≤ sc ∧ 0 ≤ (ix q j).times) : ∀ m, m ≤ q.length → sMd q pr m n ≤ sc * timesT q m
  | 0, _ => by rw [sMd_0]; simp [timesT]
  | m + 1, hm => by
    have ih := sMd_le h m (by omega)
    obtain ⟨h1, h2⟩ := h m (by omega)
    have h3 := Int.mul_le_mul_of_nonneg_right h1 h2
    rw [sMd_succ (by omega), timesT_succ (by omega), Int.mul_add]
    omega
theorem prov_le {lim : Int} {l : List Pc} {pr : List Int} {sc : Int} {q : List Pt} (h : Pat.provE lim (toPL l) pr sc = 0) (hr : rightB (lotS lim) l q = true) : Pat.provV lim (toPL l) pr sc ≤ timesT q q.length := by
  obtain ⟨hg, hl, hs, hp, h10, hb⟩ := Pat.prov_0 h
  obtain ⟨ho, g1, g2, g3⟩ := Pat.givE_0 hg
  obtain ⟨r1, r2, r3, _⟩ := right_yes.1 hr
  rw [toPL_len] at hl h10
  have key : ∀ n, n ≤ l.length → Pat.costT (toPL l) pr n = sMd q pr q.length n := by
    intro n
    induction n with
    | zero => intro _; rfl
    | succ n ih =>
      intro hn
      rw [Pat.costT, sMd, ih (by omega), r3 n (by omega), toPL_ix]
      rfl
  have hw : ∀ j, j < q.length → Pat.wN (ix pr) (ix q j).ps l.length ≤ sc ∧ 0 ≤ (ix q j).times := by
    intro j hj
    have hat := plan_at r1 hj
    have hst : (ix q j).stock.toNat = 0 := by
      have : (ix q j).stock < 1 := hat.2.1
      omega
    have hf := r2 j hj
    simp only [fitP, fitsB, Bool.and_eq_true, decide_eq_true_eq, hst] at hf
    obtain ⟨f1, f2, f3⟩ := hf
    have hpb := Pat.price_best hg (by rw [toPL_len]; exact hl) hp (by rw [toPL_len]; exact h10) (ns := (ix q j).ps) (by rw [toPL_len]; exact f1) (inB_to f2) (by rw [sumL_to]; exact f3)
    rw [Pat.price_wN (by omega), f1] at hpb
    exact ⟨by omega, by omega⟩
  have hle := sMd_le hw q.length (Nat.le_refl _)
  unfold Pat.provV
  rw [if_pos h, toPL_len, key _ (Nat.le_refl _)]
  refine Pat.upR_le ?_ hs.1 hle
  have hc := (Pat.cost_range ho hp (by rw [toPL_len]; exact hl) l.length (by rw [toPL_len]; exact Nat.le_refl _)).1
  rw [key _ (Nat.le_refl _)] at hc
  exact hc
end Go.Proofs.YtolioflblegneaaGreat
namespace Go.Proofs.YtolioflblegneaaGreat
open Go.RowKit
theorem stB_lots_no {lim : Int} (h : stB (lotS lim) = true) : 1 ≤ lim ∧ lim ≤ 1048576 := by
  have := (stB_yes.1 h).2 0 (by show (0 : Nat) < 1; decide)
  simp [okS, lotS, lenB, ix] at this
  omega
theorem greedy_no {lim : Int} {l : List Pc} (hg : givE lim l ≠ 0) : gErr (lotS lim) l ≠ 0 ∧ gRes (lotS lim) l = [] := by
  have h1 : gErr (lotS lim) l ≠ 0 := fun he => by
    unfold gErr at he
    split at he
    · omega
    rename_i h1
    have hs : stB (lotS lim) = true := by cases e : stB (lotS lim) with | true => rfl | false => exact absurd (.inl e) h1
    have ho : orderB l = true := by cases e : orderB l with | true => rfl | false => exact absurd (.inr e) h1
    split at he
    · omega
    split at he
    · omega
    rename_i h3
    obtain ⟨st, hst⟩ : ∃ st, gA (lotS lim) l = some st := by
      cases e : gA (lotS lim) l with
      | none => exact absurd e h3
      | some st => exact ⟨st, rfl⟩
    have hG := gb_all hs ho hst
    obtain ⟨l1, l2⟩ := stB_lots_no hs
    refine hg ?_
    unfold givE
    rw [if_neg (by rw [ho]; simp), if_neg (by omega), if_neg]
    intro hany
    obtain ⟨x, hx, hlt⟩ := List.any_eq_true.1 hany
    obtain ⟨i, hi, rfl⟩ := List.getElem_of_mem hx
    obtain ⟨k, hk, _, hle⟩ := gb_fits ho hG hi
    have hk0 : k = 0 := Nat.lt_one_iff.mp hk
    subst hk0
    rw [ix_eq hi] at hle
    have : (ix (lotS lim) 0).len = lim := rfl
    simp only [decide_eq_true_eq] at hlt
    omega
  exact ⟨h1, if_neg h1⟩
theorem lens_lots {lim : Int} {p : List Pt} (hp : planB (lotS lim) p = true) : ∀ k, k ≤ p.length → lensT (lotS lim) p k = timesT p k * lim
  | 0, _ => by simp [lensT, timesT]
  | k + 1, hk => by
    have ih := lens_lots hp k (by omega)
    have hat := plan_at hp (k := k) (by omega)
    have hst : (ix p k).stock.toNat = 0 := by
      have : (ix p k).stock < 1 := hat.2.1
      omega
    rw [lensT_succ (by omega), timesT_succ (by omega), ih, hst, Int.add_mul]
    rfl
structure CutF (lim : Int) (l : List Pc) (p : List Pt) : Prop where
  right : rightB (lotS lim) l p = true
  best : bestR lim l ≤ timesT p p.length
  used : usedE (lotS lim) p = 0 ∧ usedN (lotS lim) p = timesT p p.length ∧ usedS (lotS lim) p = timesT p p.length * lim
  waste : wasteE (lotS lim) l p = 0 ∧ wasteV (lotS lim) l p = timesT p p.length * lim - totL l
  least : lstE lim l = 0 → ((lstB lim l).length : Int) ≤ timesT p p.length
  small : p.length ≤ 1000 ∧ ∀ k, k < p.length → (ix p k).ps.length ≤ 200
theorem cut_facts {lim : Int} {l : List Pc} {p : List Pt} (hg : givE lim l = 0) (hr : rightB (lotS lim) l p = true) : CutF lim l p := by
  obtain ⟨ho, h1, h2, h3⟩ := givE_0 hg
  have hs := stB_lots h1 h2
  have hp := right_plan hr
  have hopt := right_opt ho hr
  have hb := best_opt ho h1 h3
  have hl := lens_lots hp p.length (Nat.le_refl _)
  have he : usedE (lotS lim) p = 0 := by simp only [usedE, hs, hp]; rfl
  have hw : wasteE (lotS lim) l p = 0 := by simp only [wasteE, hs, ho, hr]; rfl
  refine ⟨hr, by omega, ⟨he, if_pos he, ?_⟩, ⟨hw, ?_⟩, fun hle => ?_, right_small ho hr⟩
  · unfold usedS; rw [if_pos he, hl]
  · unfold wasteV; rw [if_pos hw, hl]
  · rw [lst_len hle]; exact hopt
end Go.Proofs.YtolioflblegneaaGreat
