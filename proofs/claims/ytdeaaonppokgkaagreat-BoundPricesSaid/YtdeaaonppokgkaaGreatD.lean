/- Contract: differences of 128 bits. -/
import Derived.Test.YtdeaaonppokgkaaGreatC
import Derived.Shelf.Spec.BitsCarry
set_option maxRecDepth 100000
set_option linter.unusedSimpArgs false
set_option linter.unusedVariables false
namespace Go.Proofs.YtdeaaonppokgkaaGreat
open Go.RowKit
def l7_ren : Go.Shelf.Ren := ⟨fun | 25 => 110 | 26 => 112 | n => n, fun | 22 => 87 | n => n, fun n => n⟩
theorem l25 : Go.Proofs.Lays7.n25 Tryz.prog l7_ren := {
  mixed := by kernel_rfl
  f25 := Tryz.func110.trans (congrArg some (by kernel_rfl))
  t22 := Tryz.underlying87
  a22 := Tryz.isAgg87
  z22 := Tryz.sizeOf87
  v22 := Tryz.zeroValue87
  i22 := by kernel_rfl }
theorem l26 : Go.Proofs.Lays7.n26 Tryz.prog l7_ren := {
  mixed := by kernel_rfl
  f26 := Tryz.func112.trans (congrArg some (by kernel_rfl))
  t22 := Tryz.underlying87
  a22 := Tryz.isAgg87
  z22 := Tryz.sizeOf87
  v22 := Tryz.zeroValue87
  i22 := by kernel_rfl }
def adS (x y c : Nat) : Nat := (x + y + c) % 18446744073709551616
def adC (x y c : Nat) : Nat := (x + y + c) / 18446744073709551616
def sbS (x y b : Nat) : Nat := (x + 18446744073709551616 - y - b) % 18446744073709551616
def sbB (x y b : Nat) : Nat := if x < y + b then 1 else 0
theorem add_xt (x y c : Nat) (hc : c ≤ 1) (H : List Ob) : XtOk Tryz.prog 110 [.v (.int .u64 x), .v (.int .u64 y), .v (.int .u64 c)] H (.tuple #[.int .u64 (adS x y c : Nat), .int .u64 (adC x y c : Nat)]) := fun β w vals _ hv => by
  rw [gndL_ok rfl hv]
  exact Any7.bits_Add64 l25 x y c hc w
theorem sub_xt (x y c : Nat) (hc : c ≤ 1) (H : List Ob) : XtOk Tryz.prog 112 [.v (.int .u64 x), .v (.int .u64 y), .v (.int .u64 c)] H (.tuple #[.int .u64 (sbS x y c : Nat), .int .u64 (sbB x y c : Nat)]) := fun β w vals _ hv => by
  rw [gndL_ok rfl hv]
  exact Any7.bits_Sub64 l26 x y c hc w
theorem words_of {z : Int} {h l : Nat} (hl : l < 18446744073709551616) (e : z.natAbs = h * 18446744073709551616 + l) : hiW z = h ∧ loW z = l := by
  unfold hiW loW
  rw [e]
  omega
theorem adC_le {b d c : Nat} (hb : b < 18446744073709551616) (hd : d < 18446744073709551616) (hc : c ≤ 1) : adC b d c ≤ 1 := by unfold adC; omega
theorem sbB_le (b d c : Nat) : sbB b d c ≤ 1 := by unfold sbB; split <;> omega
theorem two_sum {W a b c d q r : Nat} (h : q * W + r = b + d + 0) : (a * W + b) + (c * W + d) = (a + c + q) * W + r := by
  rw [Nat.add_mul, Nat.add_mul]
  omega
theorem plus_words {z : Int} {a b c d : Nat} (e : z.natAbs = (a * 18446744073709551616 + b) + (c * 18446744073709551616 + d)) (h : z.natAbs < 340282366920938463463374607431768211456) :
    hiW z = adS a c (adC b d 0) ∧ loW z = adS b d 0 := by
  have h1 := Nat.div_add_mod' (b + d + 0) 18446744073709551616
  have h2 : (b + d + 0) % 18446744073709551616 < 18446744073709551616 := Nat.mod_lt _ (by decide)
  unfold adS adC
  generalize (b + d + 0) / 18446744073709551616 = q at *
  generalize (b + d + 0) % 18446744073709551616 = r at *
  have h3 : a + c + q < 18446744073709551616 := by omega
  rw [Nat.mod_eq_of_lt h3]
  refine words_of h2 ?_
  rw [e]
  exact two_sum h1
theorem minus_words {z : Int} {a b c d : Nat} (ha : a < 18446744073709551616) (hb : b < 18446744073709551616) (hd : d < 18446744073709551616) (e : z.natAbs + (c * 18446744073709551616 + d) = a * 18446744073709551616 + b) :
    hiW z = sbS a c (sbB b d 0) ∧ loW z = sbS b d 0 := by
  refine words_of (by unfold sbS; omega) ?_
  unfold sbS sbB
  split <;> omega
theorem hi_lt {z : Int} (h : z.natAbs < 340282366920938463463374607431768211456) : hiW z < 18446744073709551616 := by unfold hiW; omega
set_option maxHeartbeats 4000000 in
theorem minus_core {nx ny nz : Bool} {a b c d h l : Nat} {k : Int}
    (hc : Pu Tryz.prog 111 [.a [.v (.bool nx), .v (.int .u64 (a : Nat)), .v (.int .u64 (b : Nat))], .a [.v (.bool ny), .v (.int .u64 (c : Nat)), .v (.int .u64 (d : Nat))]] [] (.v (.int .i64 k)))
    (hadd : (nx != ny) = true → nz = nx ∧ ∃ C0 C1 : Nat, (∀ H, XtOk Tryz.prog 110 [.v (.int .u64 (b : Nat)), .v (.int .u64 (d : Nat)), .v (.int .u64 0)] H (.tuple #[.int .u64 (l : Nat), .int .u64 (C0 : Nat)])) ∧ ∀ H, XtOk Tryz.prog 110 [.v (.int .u64 (a : Nat)), .v (.int .u64 (c : Nat)), .v (.int .u64 (C0 : Nat))] H (.tuple #[.int .u64 (h : Nat), .int .u64 (C1 : Nat)]))
    (hs1 : (nx != ny) = false → ¬ k < 0 → nz = (nx && (!decide (h = 0) || !decide (l = 0))) ∧ ∃ C0 C1 : Nat, (∀ H, XtOk Tryz.prog 112 [.v (.int .u64 (b : Nat)), .v (.int .u64 (d : Nat)), .v (.int .u64 0)] H (.tuple #[.int .u64 (l : Nat), .int .u64 (C0 : Nat)])) ∧ ∀ H, XtOk Tryz.prog 112 [.v (.int .u64 (a : Nat)), .v (.int .u64 (c : Nat)), .v (.int .u64 (C0 : Nat))] H (.tuple #[.int .u64 (h : Nat), .int .u64 (C1 : Nat)]))
    (hs2 : (nx != ny) = false → k < 0 → nz = (!nx && (!decide (h = 0) || !decide (l = 0))) ∧ ∃ C0 C1 : Nat, (∀ H, XtOk Tryz.prog 112 [.v (.int .u64 (d : Nat)), .v (.int .u64 (b : Nat)), .v (.int .u64 0)] H (.tuple #[.int .u64 (l : Nat), .int .u64 (C0 : Nat)])) ∧ ∀ H, XtOk Tryz.prog 112 [.v (.int .u64 (c : Nat)), .v (.int .u64 (a : Nat)), .v (.int .u64 (C0 : Nat))] H (.tuple #[.int .u64 (h : Nat), .int .u64 (C1 : Nat)])) :
    Sp Tryz.prog 106 [.a [.v (.bool nx), .v (.int .u64 (a : Nat)), .v (.int .u64 (b : Nat))], .a [.v (.bool ny), .v (.int .u64 (c : Nat)), .v (.int .u64 (d : Nat))]] [] (isK (.a [.v (.bool nz), .v (.int .u64 (h : Nat)), .v (.int .u64 (l : Nat))])) := by
  refine sp_of_exa true true [] mixed Tryz.call106 Tryz.func106 rfl Tryz.ntmps106 Tryz.results106 (by decide +kernel) rfl ?_
  refine sxq ?_
  try with_reducible exact trivial
  cases hne : nx != ny with
  | true =>
    obtain ⟨e0, C0, C1, x0, x1⟩ := hadd hne
    subst e0
    refine sxq ?_
    try with_reducible exact trivial
    refine Or.inr ⟨.t [.v (.int .u64 (l : Nat)), .v (.int .u64 (C0 : Nat))], _, rfl, x0 _, ?_⟩
    refine sxq ?_
    try with_reducible exact trivial
    refine Or.inr ⟨.t [.v (.int .u64 (h : Nat)), .v (.int .u64 (C1 : Nat))], _, rfl, x1 _, ?_⟩
    refine sxq ?_
    try with_reducible exact trivial
    cases nz <;> cases ny <;> first | cases hne | skip
    all_goals
      refine sxq ?_
      try with_reducible exact trivial
  | false =>
    refine sxq ?_
    try with_reducible exact trivial
    refine Or.inl ?_
    refine sp_call hc rfl [] rfl ?_ ?_ ?_
    · refine sxq ?_
      try with_reducible exact trivial
      try trivial
    · refine sxq ?_
      try with_reducible exact trivial
    refine sxq ?_
    try with_reducible exact trivial
    refine ⟨fun hk => ?_, fun hk => ?_⟩
    · obtain ⟨e0, C0, C1, x0, x1⟩ := hs2 hne hk
      rw [e0]
      refine Or.inr ⟨.t [.v (.int .u64 (l : Nat)), .v (.int .u64 (C0 : Nat))], _, rfl, x0 _, ?_⟩
      refine sxq ?_
      try with_reducible exact trivial
      refine Or.inr ⟨.t [.v (.int .u64 (h : Nat)), .v (.int .u64 (C1 : Nat))], _, rfl, x1 _, ?_⟩
      refine sxq ?_
      try with_reducible exact trivial
      cases nx
      · refine sxq ?_
        try with_reducible exact trivial
        exact ⟨fun h0 => pv (by
          have h1 : h = 0 := by omega
          subst h1
          by_cases h2 : l = 0 <;> simp [h2]), fun h0 => pv (by
          have h1 : h ≠ 0 := by omega
          simp [h1])⟩
      · refine sxq ?_
        try with_reducible exact trivial
    · obtain ⟨e0, C0, C1, x0, x1⟩ := hs1 hne hk
      rw [e0]
      refine Or.inr ⟨.t [.v (.int .u64 (l : Nat)), .v (.int .u64 (C0 : Nat))], _, rfl, x0 _, ?_⟩
      refine sxq ?_
      try with_reducible exact trivial
      refine Or.inr ⟨.t [.v (.int .u64 (h : Nat)), .v (.int .u64 (C1 : Nat))], _, rfl, x1 _, ?_⟩
      refine sxq ?_
      try with_reducible exact trivial
      cases nx
      · refine sxq ?_
        try with_reducible exact trivial
      · refine sxq ?_
        try with_reducible exact trivial
        exact ⟨fun h0 => pv (by
          have h1 : h = 0 := by omega
          subst h1
          by_cases h2 : l = 0 <;> simp [h2]), fun h0 => pv (by
          have h1 : h ≠ 0 := by omega
          simp [h1])⟩
theorem minus_sp (x y : Int) (h : (x - y).natAbs < 340282366920938463463374607431768211456) (hx : x.natAbs < 340282366920938463463374607431768211456) (hy : y.natAbs < 340282366920938463463374607431768211456) : Sp Tryz.prog 106 [pr x, pr y] [] (isK (pr (x - y))) := by
  have h1 := words x
  have h2 := words y
  have h3 := lo_lt x
  have h4 := lo_lt y
  have h5 := hi_lt hx
  have h6 := hi_lt hy
  have hz := zero_words (x - y)
  refine minus_core (cmpSize_pu x y) (fun hne => ?_) (fun hne hk => ?_) (fun hne hk => ?_)
  · obtain ⟨e1, e2⟩ := plus_words (z := x - y) (a := hiW x) (b := loW x) (c := hiW y) (d := loW y) (by
      rw [h1, h2]
      by_cases q1 : x < 0 <;> by_cases q2 : y < 0 <;> simp [q1, q2] at hne <;> omega) h
    refine ⟨?_, adC (loW x) (loW y) 0, adC (hiW x) (hiW y) (adC (loW x) (loW y) 0), fun H => ?_, fun H => ?_⟩
    · by_cases q1 : x < 0 <;> by_cases q2 : y < 0 <;> simp [q1, q2] at hne ⊢ <;> omega
    · rw [e2]; exact add_xt _ _ 0 (by decide) H
    · rw [e1]; exact add_xt _ _ _ (adC_le h3 h4 (by decide)) H
  · have hle : y.natAbs ≤ x.natAbs := by
      refine Nat.le_of_not_lt fun hlt => hk ?_
      rw [if_pos hlt]; decide
    obtain ⟨e1, e2⟩ := minus_words (z := x - y) (a := hiW x) (b := loW x) (c := hiW y) (d := loW y) h5 h3 h4 (by
      rw [h1, h2]
      by_cases q1 : x < 0 <;> by_cases q2 : y < 0 <;> simp [q1, q2] at hne <;> omega)
    refine ⟨?_, sbB (loW x) (loW y) 0, sbB (hiW x) (hiW y) (sbB (loW x) (loW y) 0), fun H => ?_, fun H => ?_⟩
    · rw [Bool.eq_iff_iff]
      by_cases q1 : x < 0 <;> by_cases q2 : y < 0 <;> simp [q1, q2] at hne ⊢ <;> omega
    · rw [e2]; exact sub_xt _ _ 0 (by decide) H
    · rw [e1]; exact sub_xt _ _ _ (sbB_le _ _ _) H
  · have hlt : x.natAbs < y.natAbs := by
      refine Nat.lt_of_not_le fun hle => ?_
      rw [if_neg (by omega)] at hk
      split at hk <;> omega
    obtain ⟨e1, e2⟩ := minus_words (z := x - y) (a := hiW y) (b := loW y) (c := hiW x) (d := loW x) h6 h4 h3 (by
      rw [h1, h2]
      by_cases q1 : x < 0 <;> by_cases q2 : y < 0 <;> simp [q1, q2] at hne <;> omega)
    refine ⟨?_, sbB (loW y) (loW x) 0, sbB (hiW y) (hiW x) (sbB (loW y) (loW x) 0), fun H => ?_, fun H => ?_⟩
    · rw [Bool.eq_iff_iff]
      by_cases q1 : x < 0 <;> by_cases q2 : y < 0 <;> simp [q1, q2] at hne ⊢ <;> omega
    · rw [e2]; exact sub_xt _ _ 0 (by decide) H
    · rw [e1]; exact sub_xt _ _ _ (sbB_le _ _ _) H
theorem minus_pu (x y : Int) (h : (x - y).natAbs < 340282366920938463463374607431768211456) (hx : x.natAbs < 340282366920938463463374607431768211456) (hy : y.natAbs < 340282366920938463463374607431768211456) : Pu Tryz.prog 106 [pr x, pr y] [] (pr (x - y)) :=
  pu_of_sp rfl rfl (minus_sp x y h hx hy)
end Go.Proofs.YtdeaaonppokgkaaGreat
