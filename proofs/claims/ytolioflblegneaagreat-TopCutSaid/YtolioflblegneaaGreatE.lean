/- Contracts: valid stock. Contracts: bars and patterns. Contracts: the patterns of lengths in use. Plain facts: the greedy plan. -/
import Derived.Test.YtolioflblegneaaGreatA
import Derived.Test.YtolioflblegneaaGreatSE
set_option maxRecDepth 100000
set_option linter.unusedSimpArgs false
set_option linter.unusedVariables false
namespace Go.Proofs.YtolioflblegneaaGreat
open Go.RowKit
def rSt (l : List Pc) : Ob := ⟨28, true, .row 2 1 (fun _ => l.length) (fun _ => 0) (fun _ k => cPc (ix l k))⟩
attribute [push_cast] rSt
def hasI (P : List Int) (n : Int) : Bool := P.contains n
theorem hasI_snoc (P : List Int) (i n : Int) : hasI (P ++ [i]) n = (n == i || hasI P n) := by
  unfold hasI
  rw [List.contains_append, Bool.or_comm, Bool.eq_iff_iff]
  simp
theorem hasI_iff {P : List Int} {n : Int} : hasI P n = true ↔ n ∈ P := by unfold hasI; simp
def lensL (l : List Pc) (k : Nat) : List Int := (l.take k).map Pc.len
theorem lensL_succ {l : List Pc} {k : Nat} (h : k < l.length) : lensL l (k + 1) = lensL l k ++ [(ix l k).len] := by
  unfold lensL
  rw [take_snoc h, List.map_append]; rfl
theorem lensL_len {l : List Pc} {k : Nat} (h : k ≤ l.length) : (lensL l k).length = k := by simp [lensL]; omega
def okS (l : List Pc) (k : Nat) : Bool := lenB (ix l k).len && (decide (-1 ≤ (ix l k).cnt) && (decide ((ix l k).cnt ≤ 1000000) && !hasI (lensL l k) (ix l k).len))
def stB (l : List Pc) : Bool := decide (l.length ≤ 10) && (List.range l.length).all (okS l)
theorem stB_yes {l : List Pc} : stB l = true ↔ l.length ≤ 10 ∧ ∀ k, k < l.length → okS l k = true := by simp [stB]
theorem stB_no {l : List Pc} {k : Nat} (hk : k < l.length) (h : okS l k = false) : stB l = false := by
  cases e : stB l with
  | false => rfl
  | true => rw [(stB_yes.1 e).2 k hk] at h; cases h
set_option maxHeartbeats 1000000 in
theorem validS_pu (l : List Pc) (c : Nat) (hl : l.length ≤ 9223372036854775807) : Pu Tryz.prog 36 [.s 0 0 0 l.length c 2] [rSt l] (.v (.bool (stB l))) := by
  refine pu_of_ex true [] mixed Tryz.call36 Tryz.func36 rfl Tryz.ntmps36 Tryz.results36 (by decide +kernel) rfl rfl rfl ?_
  refine sxo ?_
  try with_reducible exact trivial
  refine ⟨fun h => by simp [stB, show ¬ l.length ≤ 10 by omega], fun h => ?_⟩
  have hlen : l.length ≤ 10 := by omega
  refine tr_loop mixed (by kernel_rfl) (fun (k : Nat) => [(12, .v (.int .i64 k)), (11, .v (.int .i64 l.length)), (10, .s 0 0 0 l.length c 2), (3, .m 1), (0, .s 0 0 0 l.length c 2)])
    (fun k => [rSt l, ⟨151, false, .mp (.int .i64) (lensL l k).length (gI (hasI (lensL l k)))⟩]) (fun k => k ≤ l.length ∧ ∀ j, j < k → okS l j = true) (fun k => l.length - k) 0 ⟨Nat.zero_le _, fun j hj => by omega⟩ (Mt.wk (rl := [0, 1]) ⟨by kernel_rfl, ?_, ?_⟩) ?_
  · refine sxo ?_
    try with_reducible exact trivial
  · refine sxo ?_
    try with_reducible exact trivial
    exact ⟨rfl, gI_no (fun x => by simp [lensL, hasI]) _⟩
  rintro k ⟨h1, h2⟩
  refine sxo ?_
  try with_reducible exact trivial
  refine ⟨fun h3 => ?_, fun h3 => ?_⟩
  rotate_left
  · obtain rfl : k = l.length := by omega
    rw [stB_yes.2 ⟨hlen, h2⟩]
  have hk : k < l.length := by omega
  have no : okS l k = false → stB l = false := stB_no hk
  repeat (with_reducible refine And.intro (by omega) ?_)
  refine sp_call (length_pu (ix l k).len) rfl [] rfl (by simp only [push_cast, ↓branch_true, ↓branch_false, Nat.reduceBEq, Nat.reduceAdd, Nat.reduceMul, Nat.reduceSub, Int.reduceToNat, reduceCtorEq, branch_decide, branch_not, branch_beq, branch_bne]) (by simp only [push_cast, ↓branch_true, ↓branch_false, Nat.reduceBEq, Nat.reduceAdd, Nat.reduceMul, Nat.reduceSub, Int.reduceToNat, reduceCtorEq, branch_decide, branch_not, branch_beq, branch_bne]) ?_
  refine sxo ?_
  try with_reducible exact trivial
  cases hL : lenB (ix l k).len with
  | false =>
    refine sxo ?_
    try with_reducible exact trivial
    rw [no (by simp [okS, hL])]
  | true =>
  refine sxo ?_
  try with_reducible exact trivial
  refine ⟨fun h4 => by rw [no (by simp [okS, hL]; omega)], fun h4 => ⟨fun h5 => by rw [no (by simp [okS, hL]; omega)], fun h5 => ?_⟩⟩
  cases hh : hasI (lensL l k) (ix l k).len with
  | true =>
    refine sxo ?_
    try with_reducible exact trivial
    rw [no (by simp [okS, hL, hh])]
  | false =>
  refine sxo ?_
  try with_reducible exact trivial
  have hok : okS l k = true := by simp [okS, hL, hh]; omega
  have hle := lensL_len h1
  have hle2 := lensL_len (l := l) (k := k + 1) (by omega)
  repeat (with_reducible refine And.intro (by omega) ?_)
  refine lpK_normal (k + 1) [0, 1] ⟨by omega, fun j hj => ?_⟩ (by omega) (by kernel_rfl) ?_ ?_
  · by_cases e : j = k
    · rw [e]; exact hok
    · exact h2 j (by omega)
  · refine sxo ?_
    try with_reducible exact trivial
  · refine sxo ?_
    try with_reducible exact trivial
    refine ⟨by omega, gI_up fun x => ?_⟩
    rw [lensL_succ hk, hasI_snoc]
end Go.Proofs.YtolioflblegneaaGreat
namespace Go.Proofs.YtolioflblegneaaGreat
open Go.RowKit
/-- A length in use. -/
structure Br where
  kind : Int
  left : Int
  ps : List Int
instance : Inhabited Br := ⟨⟨0, 0, []⟩⟩
/-- A pattern. -/
structure Pt where
  stock : Int
  ps : List Int
  times : Int
instance : Inhabited Pt := ⟨⟨0, [], 0⟩⟩
/-- Rows of numbers. -/
def rFm (N : Nat) (G : Nat → List Int) : Ob := ⟨3, true, .row 1 N (fun k => (G k).length) (fun _ => 0) (fun k q => [.v (.int .i64 (ix (G k) q))])⟩
def oFm (cp : Nat → Nat) (G : Nat → List Int) : Ob := ⟨3, false, .row 1 (big + 2) (fun k => (G k).length) cp (fun k q => [.v (.int .i64 (ix (G k) q))])⟩
def cBr (F : Nat) (o : List Br) (cp : Nat → Nat) (k : Nat) : List SV := [.v (.int .i64 (ix o k).kind), .v (.int .i64 (ix o k).left), .s F k 0 (ix o k).ps.length (cp k) 1]
def rBr (F : Nat) (o : List Br) (cp : Nat → Nat) : Ob := ⟨91, true, .row 3 1 (fun _ => o.length) (fun _ => 0) (fun _ k => cBr F o cp k)⟩
def oBr (F : Nat) (o : List Br) (cp : Nat → Nat) (oc : Nat) : Ob := ⟨91, false, .row 3 1 (fun _ => o.length) (fun _ => oc) (fun _ k => cBr F o cp k)⟩
def cPt (F : Nat) (o : List Pt) (cp : Nat → Nat) (k : Nat) : List SV := [.v (.int .i64 (ix o k).stock), .s F k 0 (ix o k).ps.length (cp k) 1, .v (.int .i64 (ix o k).times)]
def rPt (F : Nat) (o : List Pt) (cp : Nat → Nat) : Ob := ⟨63, true, .row 3 1 (fun _ => o.length) (fun _ => 0) (fun _ k => cPt F o cp k)⟩
def oPt (F : Nat) (o : List Pt) (cp : Nat → Nat) (oc : Nat) : Ob := ⟨63, false, .row 3 1 (fun _ => o.length) (fun _ => oc) (fun _ k => cPt F o cp k)⟩
attribute [push_cast] rFm oFm cBr rBr oBr cPt rPt oPt
def fmB (o : List Br) (k : Nat) : List Int := (ix o k).ps
def fmP (o : List Pt) (k : Nat) : List Int := (ix o k).ps
attribute [push_cast] fmB fmP
theorem list_ext {α : Type} [Inhabited α] {a b : List α} (h1 : a.length = b.length) (h2 : ∀ i, i < a.length → ix a i = ix b i) : a = b := by
  refine List.ext_getElem h1 fun i g1 g2 => ?_
  have := h2 i g1
  rwa [ix_eq g1, ix_eq g2] at this
theorem indexBr_pu (o : List Br) (cp : Nat → Nat) (F c : Nat) (g : FuncId) (fs cs : List SV) (H : List Ob) (p : Br → Bool) (hro : roB H = true) (hl : o.length ≤ 9223372036854775807)
    (hp : ∀ k, k < o.length → Pu Tryz.prog g (fs ++ [.a (cBr F o cp k)] ++ cs) (rBr F o cp :: H) (.v (.bool (p (ix o k))))) : Pu Tryz.prog 40 [.s 0 0 0 o.length c 3, .f (.func g) fs cs] (rBr F o cp :: H) (.v (.int .i64 (idxB p o 0))) := by
  refine pu_of_ex true [] mixed Tryz.call40 Tryz.func40 rfl Tryz.ntmps40 Tryz.results40 (by decide +kernel) rfl (by simp [roB, hro, rBr]) rfl ?_
  refine sxo ?_
  try with_reducible exact trivial
  refine tr_loop0 mixed (by kernel_rfl) (fun (k : Nat) => [(8, .v (.int .i64 k)), (7, .v (.int .i64 o.length)), (0, .s 0 0 0 o.length c 3), (1, .f (.func g) fs cs)]) (fun k => k ≤ o.length ∧ ∀ j, j < k → p (ix o j) = false) (fun k => o.length - k) 0 ⟨Nat.zero_le _, fun j h => by omega⟩ ?_ ?_
  · refine sxo ?_
    try with_reducible exact trivial
  · rintro k ⟨hk, hn⟩
    refine sxo ?_
    try with_reducible exact trivial
    refine ⟨fun h1 => ?_, fun h1 => ?_⟩
    · repeat (with_reducible refine And.intro (by omega) ?_)
      have hp1 := hp k (by omega)
      refine sp_pu (by simpa only [push_cast] using hp1) ?_
      refine sxo ?_
      try with_reducible exact trivial
      simp only [branch]
      refine ⟨fun h2 => ?_, fun h2 => ?_⟩
      · rw [idxB_at p o 0 k (by omega) hn h2]; simp
      · repeat (with_reducible refine And.intro (by omega) ?_)
        refine lp0_normal (k + 1) ⟨by omega, fun j hj => ?_⟩ (by omega) ?_
        · by_cases e : j = k
          · rw [e]; exact h2
          · exact hn j (by omega)
        · refine sxo ?_
          try with_reducible exact trivial
    · rw [idxB_none p o 0 fun j hj => hn j (by omega)]
/-- A variable that holds a number. -/
def oI (i : Int) : Ob := ⟨3, true, .st [.v (.int .i64 i)]⟩
attribute [push_cast] oI
theorem gcl_pu (o : List Br) (cp : Nat → Nat) (k N : Nat) (G : Nat → List Int) (n : Int) : Pu Tryz.prog 41 [.a (cBr 2 o cp k), .p 1 0 0] [rBr 2 o cp, oI n, rFm N G] (.v (.bool (decide (n ≤ (ix o k).left)))) := by
  refine pu_of_ex true [] mixed Tryz.call41 Tryz.func41 rfl Tryz.ntmps41 Tryz.results41 (by decide +kernel) rfl rfl rfl ?_
  refine sxo ?_
  try with_reducible exact trivial
theorem equal_pu (N M : Nat) (G G' : Nat → List Int) (i k c c' : Nat) (hi : i < N) (hk : k < M) (h1 : (G i).length ≤ 9223372036854775806) (h2 : (G' k).length ≤ 9223372036854775806) :
    Pu Tryz.prog 83 [.s 0 i 0 (G i).length c 1, .s 1 k 0 (G' k).length c' 1] [rFm N G, rFm M G'] (.v (.bool (decide (G i = G' k)))) := by
  refine pu_of_ex true [] mixed Tryz.call83 Tryz.func83 rfl Tryz.ntmps83 Tryz.results83 (by decide +kernel) rfl rfl rfl ?_
  refine sxo ?_
  try with_reducible exact trivial
  refine ⟨fun h => ?_, fun h => ?_⟩
  rotate_left
  · have : ¬ G i = G' k := fun e => h (by rw [e])
    simp [this]
  have hl : (G i).length = (G' k).length := by omega
  refine tr_loop0 mixed (by kernel_rfl) (fun (j : Nat) => [(13, .v (.int .i64 j)), (12, .v (.int .i64 (G i).length)), (0, .s 0 i 0 (G i).length c 1), (1, .s 1 k 0 (G' k).length c' 1)]) (fun j => j ≤ (G i).length ∧ ∀ q, q < j → ix (G i) q = ix (G' k) q) (fun j => (G i).length - j) 0 ⟨Nat.zero_le _, fun j h => by omega⟩ ?_ ?_
  · refine sxo ?_
    try with_reducible exact trivial
  rintro j ⟨hj, hn⟩
  refine sxo ?_
  try with_reducible exact trivial
  refine ⟨fun h1 => ?_, fun h1 => ?_⟩
  · repeat (with_reducible refine And.intro (by omega) ?_)
    refine ⟨fun h2 => ?_, fun h2 => ?_⟩
    · repeat (with_reducible refine And.intro (by omega) ?_)
      refine lp0_normal (j + 1) ⟨by omega, fun q hq => ?_⟩ (by omega) ?_
      · by_cases e : q = j
        · rw [e]; exact h2
        · exact hn q (by omega)
      · refine sxo ?_
        try with_reducible exact trivial
    · have : ¬ G i = G' k := fun e => h2 (by rw [e])
      simp [this]
  · have : G i = G' k := list_ext hl fun q hq => hn q (by omega)
    simp [this]
/-- A fact that the memory shows. -/
theorem sp_know {P : Program} {p : Prop} {f : FuncId} {args : List SV} {H : List Ob} {K : SV → List Ob → Prop} (h1 : ∀ vs w, (callFunc f vs).run P w = .ok (.enter f vs) w) (hf : ∀ β w vals, Inv β H w → OkL β args vals → p) (hs : p → Sp P f args H K) : Sp P f args H K :=
  ⟨h1, fun β w vals hI ha => (hs (hf β w vals hI ha)).2 β w vals hI ha⟩
theorem okL_cap {β : Bs} {j i o n c sz : Nat} {l : List SV} {vals : List Value} (h : OkL β (.s j i o n c sz :: l) vals) : n ≤ c := by
  simp only [OkL, Ok] at h
  obtain ⟨_, _, _, ⟨_, _, h, _⟩, _⟩ := h
  exact h
theorem clone_sp (N : Nat) (G : Nat → List Int) (i c : Nat) (hi : i < N) (h0 : 0 < (G i).length) (hn : (G i).length ≤ 100000) : Sp Tryz.prog 84 [.s 0 i 0 (G i).length c 1] [rFm N G] (fun r H => ∃ cap, (G i).length ≤ cap ∧ r = .s 1 0 0 (G i).length cap 1 ∧ H = [rFm N G, rIO (G i) cap]) := by
  refine sp_know (p := (G i).length ≤ c) Tryz.call84 (fun β w vals _ h => okL_cap h) fun hc => ?_
  refine sp_weak ?_
  refine sp_of_ex true [] mixed Tryz.call84 Tryz.func84 rfl Tryz.ntmps84 Tryz.results84 (by decide +kernel) rfl ?_
  refine sxo ?_
  try with_reducible exact trivial
  intro b hb
  rw [hb (by omega)]
  refine sxo ?_
  try with_reducible exact trivial
  repeat (with_reducible refine And.intro (by omega) ?_)
  refine ⟨?_, appZ_of (fun h => by omega) fun _ => .inl ⟨by omega, by omega, fun cap hcap => ?_⟩⟩
  · unfold srcOk
    split <;> simp [lenP, lenIs, ones, one1]
  · refine ⟨_, _, [0, 2], ?_, by kernel_rfl, ?_, cap, hcap, rfl, rfl⟩
    · refine sxo ?_
      try with_reducible exact trivial
    · refine sxo ?_
      try with_reducible exact trivial
end Go.Proofs.YtolioflblegneaaGreat
namespace Go.Proofs.YtolioflblegneaaGreat
open Go.RowKit
theorem ix_set_self {α : Type} [Inhabited α] {l : List α} {f : Nat} (h : f < l.length) (x : α) : ix (l.set f x) f = x := by
  rw [ix_eq (by simpa using h)]; simp
theorem ix_set_ne {α : Type} [Inhabited α] {l : List α} {f q : Nat} (h : q ≠ f) (x : α) : ix (l.set f x) q = ix l q := by
  unfold ix
  rw [List.getD_eq_getElem?_getD, List.getD_eq_getElem?_getD, List.getElem?_set_ne (Ne.symm h)]
theorem ix_app_last {α : Type} [Inhabited α] (l : List α) (x : α) : ix (l ++ [x]) l.length = x := by
  rw [ix_eq (by simp)]; simp
theorem ix_app_ne {α : Type} [Inhabited α] {l : List α} {q : Nat} (h : q ≠ l.length) (x : α) : ix (l ++ [x]) q = ix l q := by
  unfold ix
  rw [List.getD_eq_getElem?_getD, List.getD_eq_getElem?_getD]
  rcases Nat.lt_or_ge q l.length with h2 | h2
  · rw [List.getElem?_append_left h2]
  · rw [List.getElem?_eq_none (by simp; omega), List.getElem?_eq_none h2]
def upPt (p : Pt) : Pt := ⟨p.stock, p.ps, p.times + 1⟩
/-- One more length in use. -/
def addPt (out : List Pt) (b : Br) : List Pt :=
  if 0 < out.length ∧ (ix out (out.length - 1)).stock = b.kind ∧ (ix out (out.length - 1)).ps = b.ps then out.set (out.length - 1) (upPt (ix out (out.length - 1))) else out ++ [⟨b.kind, b.ps, 1⟩]
def patL (o : List Br) : List Pt := o.foldl addPt []
theorem patT_succ {o : List Br} {k : Nat} (h : k < o.length) : patL (o.take (k + 1)) = addPt (patL (o.take k)) (ix o k) := by
  unfold patL
  rw [take_snoc h, List.foldl_append]
  rfl
/-- What holds of patterns all the way. -/
structure PtOk (Q : List Int → Prop) (k : Nat) (out : List Pt) : Prop where
  len : out.length ≤ k
  times : ∀ p ∈ out, 1 ≤ p.times ∧ p.times ≤ k
  ps : ∀ p ∈ out, Q p.ps
theorem addPt_ok {Q : List Int → Prop} {k : Nat} {out : List Pt} {b : Br} (h : PtOk Q k out) (hb : Q b.ps) : PtOk Q (k + 1) (addPt out b) := by
  unfold addPt
  split
  · rename_i hc
    have hm := ix_mem (l := out) (k := out.length - 1) (by omega)
    refine ⟨by rw [List.length_set]; have := h.len; omega, fun p hp => ?_, fun p hp => ?_⟩
    · rcases List.mem_or_eq_of_mem_set hp with hp | rfl
      · have := h.times p hp; omega
      · have := h.times _ hm
        simp only [upPt]; omega
    · rcases List.mem_or_eq_of_mem_set hp with hp | rfl
      · exact h.ps p hp
      · show Q (ix out (out.length - 1)).ps; exact h.ps _ hm
  · refine ⟨by rw [List.length_append]; have := h.len; simp; omega, fun p hp => ?_, fun p hp => ?_⟩
    · rcases List.mem_append.1 hp with hp | hp
      · have := h.times p hp; omega
      · simp only [List.mem_singleton] at hp; subst hp; simp only; omega
    · rcases List.mem_append.1 hp with hp | hp
      · exact h.ps p hp
      · simp only [List.mem_singleton] at hp; subst hp; exact hb
theorem patT_ok {Q : List Int → Prop} {o : List Br} (h : ∀ b ∈ o, Q b.ps) : ∀ k, k ≤ o.length → PtOk Q k (patL (o.take k))
  | 0, _ => ⟨by simp [patL], by simp [patL], by simp [patL]⟩
  | k + 1, hk => by
    rw [patT_succ (by omega)]
    exact addPt_ok (patT_ok h k (by omega)) (h _ (ix_mem (by omega)))
/-- Bars whose numbers lie anywhere. -/
def rBq (F : Nat) (o : List Br) (qi cp : Nat → Nat) : Ob := ⟨91, true, .row 3 1 (fun _ => o.length) (fun _ => 0) (fun _ k => [.v (.int .i64 (ix o k).kind), .v (.int .i64 (ix o k).left), .s F (qi k) 0 (ix o k).ps.length (cp (qi k)) 1])⟩
attribute [push_cast] rBq
set_option maxHeartbeats 4000000 in
theorem patterns_sp (o : List Br) (qi cp : Nat → Nat) (c N : Nat) (G : Nat → List Int) (hN : ∀ k, k < o.length → qi k < N) (hG : ∀ k, k < o.length → G (qi k) = (ix o k).ps) (ho : o.length ≤ 100000) (hp : ∀ b ∈ o, 0 < b.ps.length ∧ b.ps.length ≤ 100000) :
    Sp Tryz.prog 42 [.s 0 0 0 o.length c 3] [rBq 1 o qi cp, rFm N G] (fun r H => ∃ oc cp2, (patL o).length ≤ oc ∧ r = .s 2 0 0 (patL o).length oc 3 ∧ H = [rBq 1 o qi cp, rFm N G, oPt 3 (patL o) cp2 oc, oFm cp2 (fmP (patL o))]) := by
  refine sp_weak ?_
  refine sp_of_ex true [(8, .one 0 (.one 1 (.one 3 (.alt [(2, .one 4 (.one 5 (.one 6 (.one 7 (.one 8 (.one 9 .fin)))))), (4, .alt [(2, .one 5 (.one 6 (.one 7 (.one 8 (.one 9 .fin))))), (5, .one 2 (.one 6 (.one 7 (.one 8 (.one 9 .fin)))))])]))))] mixed Tryz.call42 Tryz.func42 rfl Tryz.ntmps42 Tryz.results42 (by decide +kernel) rfl ?_
  refine sxo ?_
  try with_reducible exact trivial
  refine tr_loop mixed (by kernel_rfl) (fun (x : Nat × Nat × (Nat → Nat)) => [(9, .v (.int .i64 x.1)), (8, .v (.int .i64 o.length)), (7, .s 0 0 0 o.length c 3), (3, .s 2 0 0 (patL (o.take x.1)).length x.2.1 3)])
    (fun x => [rBq 1 o qi cp, rFm N G, oPt 3 (patL (o.take x.1)) x.2.2 x.2.1, oFm x.2.2 (fmP (patL (o.take x.1)))]) (fun x => x.1 ≤ o.length ∧ (patL (o.take x.1)).length ≤ x.2.1 ∧ ∀ k, (patL (o.take x.1)).length ≤ k → x.2.2 k = 0) (fun x => o.length - x.1) (0, 0, fun _ => 0) ⟨Nat.zero_le _, Nat.le_refl _, fun _ _ => rfl⟩ (Mt.wk (rl := [0, 1, 2, 3]) ⟨by kernel_rfl, ?_, ?_⟩) ?_
  · refine sxo ?_
    try with_reducible exact trivial
    exact rfl
  · refine sxo ?_
    try with_reducible exact trivial
    exact ⟨Or.inl rfl, by decide, Or.inr fun _ => rfl⟩
  rintro ⟨k, oc, cp2⟩ ⟨h1, h2, h3⟩
  simp only at h1 h2 h3
  have hok := patT_ok (Q := fun x => 0 < x.length ∧ x.length ≤ 100000) hp k h1
  have hsu := fun h => patT_succ (o := o) (k := k) h
  generalize hout : patL (o.take k) = out at *
  refine sxo ?_
  try with_reducible exact trivial
  refine ⟨fun h => ?_, fun h => ?_⟩
  rotate_left
  · obtain rfl : k = o.length := by omega
    rw [List.take_length] at hout
    rw [hout]
    refine ⟨_, _, [0, 1, 2, 3], ?_, by kernel_rfl, ?_, oc, cp2, h2, rfl, rfl⟩
    · refine sxo ?_
      try with_reducible exact trivial
    · refine sxo ?_
      try with_reducible exact trivial
  have hk : k < o.length := by omega
  have hkp := hp _ (ix_mem hk)
  have hGk := hG k hk
  have hNk := hN k hk
  have hsu := hsu hk
  have hol := hok.len
  repeat (with_reducible refine And.intro (by omega) ?_)
  have em : (((out.length : Nat) : Int) - 1).toNat = out.length - 1 := by omega
  refine ⟨fun g1 => ?_, fun g1 => ?_⟩
  case' refine_1 =>
    repeat (with_reducible refine And.intro (by omega) ?_)
    rw [em]
    refine ⟨fun g2 => ?_, fun g2 => ?_⟩
    case' refine_1 =>
      repeat (with_reducible refine And.intro (by omega) ?_)
      refine qc_call (equal_pu (big + 2) N (fmP out) G (out.length - 1) (qi k) (cp2 (out.length - 1)) (cp (qi k)) (by have := big_eq; omega) (by omega) (by have := hok.ps _ (ix_mem (l := out) (k := out.length - 1) (by omega)); simp only [fmP]; omega) (by rw [hGk]; omega)) rfl [3, 1] rfl ?_ ?_ ?_
      · simp only [push_cast, ↓branch_true, ↓branch_false, Nat.reduceBEq, Nat.reduceAdd, Nat.reduceMul, Nat.reduceSub, Int.reduceToNat, reduceCtorEq, branch_decide, branch_not, branch_beq, branch_bne, hGk]
      · refine sxo ?_
        try with_reducible exact trivial
      simp only [push_cast, ↓branch_true, ↓branch_false, Nat.reduceBEq, Nat.reduceAdd, Nat.reduceMul, Nat.reduceSub, Int.reduceToNat, reduceCtorEq, branch_decide, branch_not, branch_beq, branch_bne, hGk]
      refine ⟨fun g3 => ?_, fun g3 => ?_⟩
      case' refine_1 =>
        have hn : out.length - 1 < out.length := by omega
        have ht := hok.times _ (ix_mem hn)
        repeat (with_reducible refine And.intro (by omega) ?_)
        rw [em]
        repeat (with_reducible refine And.intro (by omega) ?_)
        have e1 : addPt out (ix o k) = out.set (out.length - 1) (upPt (ix out (out.length - 1))) := if_pos ⟨by omega, g2, g3⟩
        have e2 : (upPt (ix out (out.length - 1))).ps = (ix out (out.length - 1)).ps := rfl
        rw [e1] at hsu
        refine lpK_normal (k + 1, oc, cp2) [0, 1, 2, 3] ⟨by simp only; omega, by simp only [hsu, List.length_set]; exact h2, by simp only [hsu, List.length_set]; exact h3⟩ (by simp only; omega) (by kernel_rfl) ?_ ?_
        · simp only [push_cast, ↓branch_true, ↓branch_false, Nat.reduceBEq, Nat.reduceAdd, Nat.reduceMul, Nat.reduceSub, Int.reduceToNat, reduceCtorEq, branch_decide, branch_not, branch_beq, branch_bne, hsu, List.length_set]
        · simp only [push_cast, ↓branch_true, ↓branch_false, Nat.reduceBEq, Nat.reduceAdd, Nat.reduceMul, Nat.reduceSub, Int.reduceToNat, reduceCtorEq, branch_decide, branch_not, branch_beq, branch_bne, hsu, List.length_set]
          refine ⟨fun x hx q hq => ?_, fun q hq => ?_⟩
          · obtain rfl : x = 0 := by omega
            by_cases eq : q = out.length - 1
            · subst eq
              simp only [push_cast, ↓branch_true, ↓branch_false, Nat.reduceBEq, Nat.reduceAdd, Nat.reduceMul, Nat.reduceSub, Int.reduceToNat, reduceCtorEq, branch_decide, branch_not, branch_beq, branch_bne, ix_set_self hn, upPt]
            · have hb : (q == out.length - 1) = false := by simpa using eq
              simp only [push_cast, ↓branch_true, ↓branch_false, Nat.reduceBEq, Nat.reduceAdd, Nat.reduceMul, Nat.reduceSub, Int.reduceToNat, reduceCtorEq, branch_decide, branch_not, branch_beq, branch_bne, ix_set_ne eq, hb]
          · by_cases eq : q = out.length - 1
            · subst eq
              simp only [push_cast, ↓branch_true, ↓branch_false, Nat.reduceBEq, Nat.reduceAdd, Nat.reduceMul, Nat.reduceSub, Int.reduceToNat, reduceCtorEq, branch_decide, branch_not, branch_beq, branch_bne, ix_set_self hn, upPt]
            · simp only [push_cast, ↓branch_true, ↓branch_false, Nat.reduceBEq, Nat.reduceAdd, Nat.reduceMul, Nat.reduceSub, Int.reduceToNat, reduceCtorEq, branch_decide, branch_not, branch_beq, branch_bne, ix_set_ne eq]
  all_goals
    have hno : addPt out (ix o k) = out ++ [⟨(ix o k).kind, (ix o k).ps, 1⟩] := if_neg (by rintro ⟨a1, a2, a3⟩; first | exact g3 a3 | exact g2 a2 | exact g1 (by omega))
    rw [hno] at hsu
    have hcl := clone_sp N G (qi k) (cp (qi k)) (by omega) (by rw [hGk]; omega) (by rw [hGk]; omega)
    rw [hGk] at hcl
    repeat' (with_reducible apply And.intro)
    all_goals
      refine sp_at hcl [1] rfl ?_ ?_ ?_
      · refine sxo ?_
        try with_reducible exact trivial
      · refine sxo ?_
        try with_reducible exact trivial
      rintro _ _ ⟨cap, hcap, rfl, rfl⟩
      refine sxo ?_
      try with_reducible exact trivial
      have hbig := big_eq
      refine ⟨by omega, by omega, Or.inr ?_⟩
      repeat (with_reducible refine And.intro (by omega) ?_)
      intro oc2 hoc2
      repeat (with_reducible refine And.intro (by omega) ?_)
      refine lpK_wk (k + 1, oc2, fun q => bif q == out.length then cap else cp2 q) ⟨by simp only; omega, by simp only [hsu, List.length_append, List.length_cons, List.length_nil]; omega, fun q hq => ?_⟩ (by simp only; omega) ((swk_place 3 out.length 5 (by omega) (by omega) (by omega) ?_).trans (Mt.wk (rl := [0, 1, 7, 3]) ⟨by kernel_rfl, ?_, ?_⟩))
      · simp only [hsu, List.length_append, List.length_cons, List.length_nil] at hq ⊢
        have : (q == out.length) = false := by simp; omega
        rw [this]
        exact h3 q (by omega)
      · refine sxo ?_
        try with_reducible exact trivial
        omega
      · simp only [push_cast, ↓branch_true, ↓branch_false, Nat.reduceBEq, Nat.reduceAdd, Nat.reduceMul, Nat.reduceSub, Int.reduceToNat, reduceCtorEq, branch_decide, branch_not, branch_beq, branch_bne, hsu, List.length_append]
      · simp only [push_cast, ↓branch_true, ↓branch_false, Nat.reduceBEq, Nat.reduceAdd, Nat.reduceMul, Nat.reduceSub, Int.reduceToNat, reduceCtorEq, branch_decide, branch_not, branch_beq, branch_bne, hsu, List.length_append]
        refine ⟨fun x hx q hq => ?_, fun q hq => ?_⟩
        · by_cases eq : q = out.length
          · subst eq
            have hb2 : decide (out.length < out.length) = false := by simp
            simp only [push_cast, ↓branch_true, ↓branch_false, Nat.reduceBEq, Nat.reduceAdd, Nat.reduceMul, Nat.reduceSub, Int.reduceToNat, reduceCtorEq, branch_decide, branch_not, branch_beq, branch_bne, ix_app_last, hb2]
          · have hb : (q == out.length) = false := by simpa using eq
            have hb2 : decide (q < out.length) = true := by simp; omega
            simp only [push_cast, ↓branch_true, ↓branch_false, Nat.reduceBEq, Nat.reduceAdd, Nat.reduceMul, Nat.reduceSub, Int.reduceToNat, reduceCtorEq, branch_decide, branch_not, branch_beq, branch_bne, ix_app_ne eq, hb, hb2]
        · by_cases eq : q = out.length
          · subst eq
            simp only [push_cast, ↓branch_true, ↓branch_false, Nat.reduceBEq, Nat.reduceAdd, Nat.reduceMul, Nat.reduceSub, Int.reduceToNat, reduceCtorEq, branch_decide, branch_not, branch_beq, branch_bne, ix_app_last]
          · have hb : (q == out.length) = false := by simpa using eq
            simp only [push_cast, ↓branch_true, ↓branch_false, Nat.reduceBEq, Nat.reduceAdd, Nat.reduceMul, Nat.reduceSub, Int.reduceToNat, reduceCtorEq, branch_decide, branch_not, branch_beq, branch_bne, ix_app_ne eq, hb]
end Go.Proofs.YtolioflblegneaaGreat
namespace Go.Proofs.YtolioflblegneaaGreat
open Go.RowKit
/-- The shortest kind of stock that is long enough, and not used up, of the first ones. -/
def kindT (s : List Pc) (u : List Int) (n : Int) : Nat → Int
  | 0 => -1
  | j + 1 => if n ≤ (ix s j).len ∧ ((ix s j).cnt < 0 ∨ ix u j < (ix s j).cnt) ∧ (kindT s u n j < 0 ∨ (ix s j).len < (ix s (kindT s u n j).toNat).len) then (j : Int) else kindT s u n j
theorem kindT_range (s : List Pc) (u : List Int) (n : Int) : ∀ j, -1 ≤ kindT s u n j ∧ kindT s u n j < j ∧ (0 ≤ kindT s u n j → n ≤ (ix s (kindT s u n j).toNat).len ∧ ((ix s (kindT s u n j).toNat).cnt < 0 ∨ ix u (kindT s u n j).toNat < (ix s (kindT s u n j).toNat).cnt))
  | 0 => by simp [kindT]
  | j + 1 => by
    have ih := kindT_range s u n j
    unfold kindT
    split
    · rename_i h
      refine ⟨by omega, by omega, fun _ => ?_⟩
      rw [Int.toNat_natCast]
      exact ⟨h.1, h.2.1⟩
    · exact ⟨ih.1, by omega, ih.2.2⟩
/-- A piece is cut from a length in use. -/
def cutBr (i n : Int) (b : Br) : Br := ⟨b.kind, b.left - n, b.ps.set i.toNat (ix b.ps i.toNat + 1)⟩
def fitAt (n : Int) (o : List Br) : Nat := o.findIdx fun b => decide (n ≤ b.left)
def zeros (n : Nat) : List Int := List.replicate n 0
theorem zeros_ix {n k : Nat} : ix (zeros n) k = 0 := by
  unfold zeros ix
  rw [List.getD_eq_getElem?_getD, List.getElem?_replicate]
  split <;> rfl
theorem zeros_len (n : Nat) : (zeros n).length = n := by simp [zeros]
abbrev GSt := List Br × List Int
/-- A piece of line i. -/
def gst (s l : List Pc) (i : Int) (st : GSt) : Option GSt :=
  let n := (ix l i.toNat).len
  if fitAt n st.1 < st.1.length then some (st.1.set (fitAt n st.1) (cutBr i n (ix st.1 (fitAt n st.1))), st.2)
  else if kindT s st.2 n s.length < 0 then none
  else some (st.1 ++ [cutBr i n ⟨kindT s st.2 n s.length, (ix s (kindT s st.2 n s.length).toNat).len, zeros l.length⟩], st.2.set (kindT s st.2 n s.length).toNat (ix st.2 (kindT s st.2 n s.length).toNat + 1))
def gfold (s l : List Pc) : List Int → GSt → Option GSt
  | [], st => some st
  | i :: x, st => (gst s l i st).bind (gfold s l x)
def g0 (s : List Pc) : GSt := ([], zeros s.length)
/-- The lengths in use behind the first pieces, and all. -/
def gT (s l : List Pc) (k : Nat) : Option GSt := gfold s l ((longL l).take k) (g0 s)
def gA (s l : List Pc) : Option GSt := gfold s l (longL l) (g0 s)
theorem gfold_app (s l : List Pc) : ∀ (x y : List Int) (st : GSt), gfold s l (x ++ y) st = (gfold s l x st).bind (gfold s l y)
  | [], y, st => rfl
  | i :: x, y, st => by
    simp only [List.cons_append, gfold]
    cases gst s l i st with
    | none => rfl
    | some t => exact gfold_app s l x y t
theorem gT_succ {s l : List Pc} {k : Nat} (h : k < (longL l).length) : gT s l (k + 1) = (gT s l k).bind (gst s l (ix (longL l) k)) := by
  unfold gT
  rw [take_snoc h, gfold_app]
  congr 1
  funext st
  simp only [gfold]
  cases gst s l (ix (longL l) k) st <;> rfl
theorem gT_none {s l : List Pc} {k : Nat} (h : gT s l k = none) : gA s l = none := by
  unfold gA
  rw [← List.take_append_drop k (longL l), gfold_app]
  unfold gT at h
  rw [h]; rfl
theorem gT_all {s l : List Pc} : gT s l (longL l).length = gA s l := by
  unfold gT gA
  rw [List.take_length]
/-- What holds of lengths in use all the way. -/
structure GOk (s l : List Pc) (k : Nat) (st : GSt) : Prop where
  ulen : st.2.length = s.length
  used : ∀ j, j < s.length → 0 ≤ ix st.2 j ∧ ix st.2 j ≤ k
  olen : st.1.length ≤ k
  bar : ∀ b ∈ st.1, 0 ≤ b.kind ∧ b.kind < s.length ∧ 0 ≤ b.left ∧ b.left ≤ 1048576 ∧ b.ps.length = l.length ∧ ∀ j, j < l.length → 0 ≤ ix b.ps j ∧ ix b.ps j ≤ k
theorem cutB_ps {i n : Int} {b : Br} {L : Nat} (hb : b.ps.length = L) (hi : 0 ≤ i ∧ i < L) (k : Nat) (h : ∀ j, j < L → 0 ≤ ix b.ps j ∧ ix b.ps j ≤ k) : (cutBr i n b).ps.length = L ∧ ∀ j, j < L → 0 ≤ ix (cutBr i n b).ps j ∧ ix (cutBr i n b).ps j ≤ (k + 1 : Nat) := by
  simp only [cutBr, List.length_set]
  refine ⟨hb, fun j hj => ?_⟩
  have h1 := h j hj
  by_cases e : j = i.toNat
  · subst e
    rw [ix_set_self (by omega)]
    omega
  · rw [ix_set_ne e]; omega
theorem fitAt_le (n : Int) (o : List Br) : fitAt n o ≤ o.length := List.findIdx_le_length
theorem fitAt_fits {n : Int} {o : List Br} (h : fitAt n o < o.length) : n ≤ (ix o (fitAt n o)).left := by
  have h2 : decide (n ≤ (o[fitAt n o]'h).left) = true := List.findIdx_getElem (p := fun b : Br => decide (n ≤ b.left)) (xs := o) (w := h)
  rw [ix_eq h]
  exact of_decide_eq_true h2
theorem fitAt_no {n : Int} {o : List Br} {j : Nat} (h : j < fitAt n o) (hj : j < o.length) : ¬ n ≤ (ix o j).left := by
  have := List.not_of_lt_findIdx h
  rw [ix_eq hj]
  simpa using this
theorem idx_fit (n : Int) (o : List Br) : idxB (fun b : Br => decide (n ≤ b.left)) o 0 = if fitAt n o < o.length then (fitAt n o : Int) else -1 := by
  split
  · rename_i h
    rw [idxB_at _ o 0 (fitAt n o) h (fun j hj => by simpa using fitAt_no hj (by omega)) (by simpa using fitAt_fits h)]
    omega
  · rename_i h
    have := fitAt_le n o
    exact idxB_none _ o 0 fun j hj => by simpa using fitAt_no (n := n) (o := o) (j := j) (by omega) hj
theorem st_len {s : List Pc} (hs : stB s = true) {k : Nat} (hk : k < s.length) : 1 ≤ (ix s k).len ∧ (ix s k).len ≤ 1048576 ∧ -1 ≤ (ix s k).cnt ∧ (ix s k).cnt ≤ 1000000 := by
  have := (stB_yes.1 hs).2 k hk
  simp only [okS, lenB, Bool.and_eq_true, decide_eq_true_eq] at this
  omega
theorem gst_ok {s l : List Pc} (hs : stB s = true) (ho : orderB l = true) {k : Nat} {i : Int} {st st' : GSt} (h : GOk s l k st) (hi : 0 ≤ i ∧ i < l.length) (he : gst s l i st = some st') : GOk s l (k + 1) st' := by
  have hp := order_at ho (k := i.toNat) (by omega)
  unfold gst at he
  simp only at he
  split at he
  · rename_i hf
    simp only [Option.some.injEq] at he
    subst he
    have hm := ix_mem hf
    have hfit := fitAt_fits hf
    obtain ⟨b1, b2, b3, b4, b5, b6⟩ := h.bar _ hm
    obtain ⟨c1, c2⟩ := cutB_ps (n := (ix l i.toNat).len) b5 hi k b6
    refine ⟨h.ulen, fun j hj => by have := h.used j hj; simp only; omega, by simp only [List.length_set]; have := h.olen; omega, fun b hb => ?_⟩
    rcases List.mem_or_eq_of_mem_set hb with hb | rfl
    · obtain ⟨a1, a2, a3, a4, a5, a6⟩ := h.bar b hb
      exact ⟨a1, a2, a3, a4, a5, fun j hj => by have := a6 j hj; omega⟩
    · exact ⟨b1, b2, by simp only [cutBr]; omega, by simp only [cutBr]; omega, c1, c2⟩
  · split at he
    · cases he
    · rename_i hf hk
      simp only [Option.some.injEq] at he
      subst he
      have hr := kindT_range s st.2 (ix l i.toNat).len s.length
      have hst := st_len hs (k := (kindT s st.2 (ix l i.toNat).len s.length).toNat) (by omega)
      have hr3 := hr.2.2 (by omega)
      generalize kindT s st.2 (ix l i.toNat).len s.length = q at *
      obtain ⟨c1, c2⟩ := cutB_ps (n := (ix l i.toNat).len) (b := ⟨q, (ix s q.toNat).len, zeros l.length⟩) (zeros_len l.length) hi k (fun j hj => by simp only [zeros_ix]; omega)
      refine ⟨by simp only [List.length_set]; exact h.ulen, fun j hj => ?_, by simp only [List.length_append, List.length_cons, List.length_nil]; have := h.olen; omega, fun b hb => ?_⟩
      · have h1 := h.used j hj
        simp only
        by_cases e : j = q.toNat
        · subst e
          rw [ix_set_self (by rw [h.ulen]; omega)]
          omega
        · rw [ix_set_ne e]; omega
      · rcases List.mem_append.1 hb with hb | hb
        · obtain ⟨a1, a2, a3, a4, a5, a6⟩ := h.bar b hb
          exact ⟨a1, a2, a3, a4, a5, fun j hj => by have := a6 j hj; omega⟩
        · simp only [List.mem_singleton] at hb
          subst hb
          exact ⟨by simp only [cutBr]; omega, by simp only [cutBr]; omega, by simp only [cutBr]; omega, by simp only [cutBr]; omega, c1, c2⟩
theorem longL_mem {l : List Pc} {i : Int} (h : i ∈ longL l) : 0 ≤ i ∧ i < l.length := by
  unfold longL repF at h
  obtain ⟨j, h1, h2⟩ := List.mem_flatMap.1 h
  rw [List.eq_of_mem_replicate h2]
  exact lnO_mem h1
theorem gT_ok {s l : List Pc} (hs : stB s = true) (ho : orderB l = true) : ∀ k, k ≤ (longL l).length → ∀ st, gT s l k = some st → GOk s l k st
  | 0, _, st, h => by
    simp only [gT, List.take_zero, gfold, Option.some.injEq] at h
    subst h
    exact ⟨zeros_len _, fun j _ => by simp only [g0, zeros_ix]; omega, by simp [g0], by simp [g0]⟩
  | k + 1, hk, st, h => by
    rw [gT_succ (by omega)] at h
    obtain ⟨st0, h1, h2⟩ := Option.bind_eq_some_iff.1 h
    exact gst_ok hs ho (gT_ok hs ho k (by omega) st0 h1) (longL_mem (ix_mem (by omega))) h2
/-- The error of Greedy, and its plan. -/
def gErr (s l : List Pc) : Int := if stB s = false ∨ orderB l = false then 1 else if 1000 < cntL l then 4 else if gA s l = none then 22 else 0
def gRes (s l : List Pc) : List Pt := if gErr s l = 0 then patL ((gA s l).getD (g0 s)).1 else []
end Go.Proofs.YtolioflblegneaaGreat
