/- The path of a laid bar of the example. Contracts: lists of boxes. Contracts: lists of boxes; the hull of the example's legs. The example's legs. -/
import Derived.Test.YtolioflblegneaaGreatWM
import Derived.Test.YtolioflblegneaaGreatWF
import Derived.Test.YtolioflblegneaaGreatA
set_option maxRecDepth 100000
set_option linter.unusedSimpArgs false
set_option linter.unusedVariables false
namespace Go.Proofs.YtolioflblegneaaGreat
open Go.RowKit
theorem asgK_normal {E : Env} {body : Code} {K : Kt} {σ : Sl} {H : List Ob} : asgK E body K .normal σ H = ex E body σ H K := rfl
attribute [push_cast] asgK_normal
theorem swk_slots {n0 : Nat} {σ : Sl} {H : List Ob} : SWk n0 σ H [] H := fun β w hI hn => ⟨β, hI, fun _ _ d => by simp only [look, Ok], fun j i x hj hx => hx, fun g h => h, fun g h => h, hn⟩
theorem rnd_retS {N : Nat} {σ : Sl} {H : List Ob} {KN KR : List Ob → Prop} (h : KR H) : rndK N KN KR .ret σ H := ⟨H, swk_slots, h⟩
theorem rnd_nextS {N : Nat} {σ : Sl} {H : List Ob} {KN KR : List Ob → Prop} (h : KN H) : rndK N KN KR .normal σ H := ⟨H, swk_slots, h⟩
theorem lall_sp (c c2 : Nat) : Sp Tryz.prog 198 [.s 0 0 0 1 c 5, .s 2 0 0 1 c2 10] G0 (fun r H => r = .f (.func 220) [] [.p 4 0 0, .p 3 0 0] ∧ H = G0 ++ [⟨48, false, .st [.s 0 0 0 1 c 5]⟩, ⟨76, false, .st [.s 2 0 0 1 c2 10]⟩]) := by
  refine sp_weak ?_
  refine sp_of_ex true [] mixed Tryz.call198 Tryz.func198 rfl Tryz.ntmps198 Tryz.results198 (by decide +kernel) rfl ?_
  refine sxg ?_
  try with_reducible exact trivial
  refine ⟨_, _, [0, 1, 2, 3, 4], ?_, by kernel_rfl, ?_, rfl, rfl⟩
  · refine sxg ?_
    try with_reducible exact trivial
  · refine sxg ?_
    try with_reducible exact trivial
def pPi (i : Int) : List P3 := if i = 0 then pP0 else pP1
set_option maxHeartbeats 8000000 in
theorem lpath_sp (c c2 : Nat) (i : Int) (h : i = 0 ∨ i = 1) : Sp Tryz.prog 161 [.s 0 0 0 1 c 5, .s 2 0 0 1 c2 10, .v (.int .i64 i)] G0 (fun r H => r = .t [.s 3 0 0 2 2 3, .v (.int .i64 0)] ∧ H = G0 ++ [oPts (pPi i) 2]) := by
  refine sp_weak ?_
  refine sp_of_ex true [] mixed Tryz.call161 Tryz.func161 rfl Tryz.ntmps161 Tryz.results161 (by decide +kernel) rfl ?_
  refine sxg ?_
  try with_reducible exact trivial
  refine sp_c (lvalid_pu c c2) rfl [0, 1, 2] ?_
  refine sxg ?_
  try with_reducible exact trivial
  refine sp_at (lall_sp c c2) [0, 1, 2] (by kernel_rfl) ?_ ?_ ?_
  · refine sxg ?_
    try with_reducible exact trivial
  · refine sxg ?_
    try with_reducible exact trivial
  rintro _ _ ⟨rfl, rfl⟩
  refine sxg ?_
  try with_reducible exact trivial
  rcases h with rfl | rfl
  · refine tr_range2 (T := tP 0 c c2) (fun d => d = 0) mixed (all_it 0 c c2) rfl Tryz.call220 (by kernel_rfl) rfl ?_ ?_
    · rintro d X x y hd rfl
      simp only [List.getElem?_cons_zero, Option.some.injEq, Prod.mk.injEq] at hd
      obtain ⟨rfl, rfl, rfl⟩ := hd
      refine sxg ?_
      try with_reducible exact trivial
      refine rnd_retS ?_
      refine sxg ?_
      try with_reducible exact trivial
      refine ⟨_, _, [0, 1, 2, 10], ?_, by kernel_rfl, ?_, rfl, rfl⟩
      · refine sxg ?_
        try with_reducible exact trivial
      · refine sxg ?_
        try with_reducible exact trivial
        exact fun _ _ => ⟨Nat.le_refl _, fun k _ => ⟨rfl, rfl, rfl⟩⟩
    · rintro X hX
      cases hX
  · refine tr_range2 (T := tP 1 c c2) (fun d => d ≤ 1) mixed (all_it 1 c c2) rfl Tryz.call220 (by kernel_rfl) (Nat.zero_le _) ?_ ?_
    · rintro d X x y hd hd1
      rcases d with _ | _ | d
      · simp only [List.getElem?_cons_zero, Option.some.injEq, Prod.mk.injEq] at hd
        obtain ⟨rfl, rfl, rfl⟩ := hd
        refine sxg ?_
        try with_reducible exact trivial
        refine rnd_nextS ?_
        refine sxg ?_
        try with_reducible exact trivial
        skip
      · simp only [List.getElem?_cons_succ, List.getElem?_cons_zero, Option.some.injEq, Prod.mk.injEq] at hd
        obtain ⟨rfl, rfl, rfl⟩ := hd
        refine sxg ?_
        try with_reducible exact trivial
        refine rnd_retS ?_
        refine sxg ?_
        try with_reducible exact trivial
        refine ⟨_, _, [0, 1, 2, 11], ?_, by kernel_rfl, ?_, rfl, rfl⟩
        · refine sxg ?_
          try with_reducible exact trivial
        · refine sxg ?_
          try with_reducible exact trivial
          exact fun _ _ => ⟨Nat.le_refl _, fun k _ => ⟨rfl, rfl, rfl⟩⟩
      · omega
    · rintro X hX
      exact absurd hX (by decide)
end Go.Proofs.YtolioflblegneaaGreat
namespace Go.Proofs.YtolioflblegneaaGreat
open Go.RowKit
def oBxs (l : List Bx) (cap : Nat) : Ob := ⟨131, false, .row 6 1 (fun _ => l.length) (fun _ => cap) (fun _ k => cX (ix l k))⟩
def rBxs (l : List Bx) : Ob := ⟨131, true, .row 6 1 (fun _ => l.length) (fun _ => 0) (fun _ k => cX (ix l k))⟩
attribute [push_cast] oBxs rBxs
theorem indexBx_pu (l : List Bx) (c : Nat) (g : FuncId) (fs cs : List SV) (H : List Ob) (p : Bx → Bool) (hro : roB H = true) (hl : l.length ≤ 9223372036854775807)
    (hp : ∀ x ∈ l, Pu Tryz.prog g (fs ++ [.a (cX x)] ++ cs) (rBxs l :: H) (.v (.bool (p x)))) : Pu Tryz.prog 214 [.s 0 0 0 l.length c 6, .f (.func g) fs cs] (rBxs l :: H) (.v (.int .i64 (idxB p l 0))) := by
  refine pu_of_ex true [] mixed Tryz.call214 Tryz.func214 rfl Tryz.ntmps214 Tryz.results214 (by decide +kernel) rfl (by simp [roB, hro, rBxs]) rfl ?_
  refine sxq ?_
  try with_reducible exact trivial
  refine tr_loop0 mixed (by kernel_rfl) (fun (k : Nat) => [(8, .v (.int .i64 k)), (7, .v (.int .i64 l.length)), (0, .s 0 0 0 l.length c 6), (1, .f (.func g) fs cs)]) (fun k => k ≤ l.length ∧ ∀ j, j < k → p (ix l j) = false) (fun k => l.length - k) 0 ⟨Nat.zero_le _, fun j h => by omega⟩ ?_ ?_
  · refine sxq ?_
    try with_reducible exact trivial
  · rintro k ⟨hk, hn⟩
    refine sxq ?_
    try with_reducible exact trivial
    refine ⟨fun h1 => ?_, fun h1 => ?_⟩
    · repeat (with_reducible refine And.intro (by omega) ?_)
      have hp1 := hp _ (ix_mem (l := l) (k := k) (by omega))
      refine sp_pu (by simpa only [push_cast] using hp1) ?_
      refine sxq ?_
      try with_reducible exact trivial
      simp only [branch]
      refine ⟨fun h2 => ?_, fun h2 => ?_⟩
      · rw [idxB_at p l 0 k (by omega) hn h2]; simp
      · repeat (with_reducible refine And.intro (by omega) ?_)
        refine lp0_normal (k + 1) ⟨by omega, fun j hj => ?_⟩ (by omega) ?_
        · by_cases e : j = k
          · rw [e]; exact h2
          · exact hn j (by omega)
        · refine sxq ?_
          try with_reducible exact trivial
    · rw [idxB_none p l 0 fun j hj => hn j (by omega)]
theorem containsBx_pu (l : List Bx) (c : Nat) (g : FuncId) (fs cs : List SV) (H : List Ob) (p : Bx → Bool) (hro : roB H = true) (hl : l.length ≤ 9223372036854775807)
    (hp : ∀ x ∈ l, Pu Tryz.prog g (fs ++ [.a (cX x)] ++ cs) (rBxs l :: H) (.v (.bool (p x)))) : Pu Tryz.prog 196 [.s 0 0 0 l.length c 6, .f (.func g) fs cs] (rBxs l :: H) (.v (.bool (l.any p))) := by
  have hi := indexBx_pu l c g fs cs H p hro hl hp
  refine pu_of_ex true [] mixed Tryz.call196 Tryz.func196 rfl Tryz.ntmps196 Tryz.results196 (by decide +kernel) rfl (by simp [roB, hro, rBxs]) rfl ?_
  refine sxq ?_
  try with_reducible exact trivial
  refine sp_pu (by simpa only [push_cast] using hi) ?_
  refine sxq ?_
  try with_reducible exact trivial
  rw [idxB_any p l 0 (Int.le_refl 0)]
theorem bcl_pu (b : Bx) (H : List Ob) : Pu Tryz.prog 221 [.a (cX b)] [] (.v (.bool (!vxB b))) := by
  refine pu_of_ex true [] mixed Tryz.call221 Tryz.func221 rfl Tryz.ntmps221 Tryz.results221 (by decide +kernel) rfl rfl rfl ?_
  refine sxq ?_
  try with_reducible exact trivial
  refine sp_c (bvalid_pu b) rfl [] ?_
  refine sxq ?_
  try with_reducible exact trivial
theorem ball_pu (l : List Bx) (c : Nat) (hl : l.length ≤ 9223372036854775807) : Pu Tryz.prog 199 [.s 0 0 0 l.length c 6] [rBxs l] (.v (.bool (l.all vxB))) := by
  refine pu_of_ex true [] mixed Tryz.call199 Tryz.func199 rfl Tryz.ntmps199 Tryz.results199 (by decide +kernel) rfl rfl rfl ?_
  refine sxq ?_
  try with_reducible exact trivial
  refine sp_c (containsBx_pu l c 221 [] [] [] (fun b => !vxB b) rfl hl (fun x _ => pu_a (bcl_pu x []) rfl _)) rfl [0] ?_
  refine sxq ?_
  try with_reducible exact trivial
  rw [List.all_eq_not_any_not]
end Go.Proofs.YtolioflblegneaaGreat
namespace Go.Proofs.YtolioflblegneaaGreat
open Go.RowKit
set_option maxHeartbeats 4000000 in
theorem points_sp (a b : P3) (c : Nat) : Sp Tryz.prog 163 [.s 0 0 0 2 c 3] [rPts [a, b]] (fun r H => ∃ cap, 2 ≤ cap ∧ r = .s 1 0 0 2 cap 6 ∧ H = [rPts [a, b], oBxs [⟨a, a⟩, ⟨b, b⟩] cap]) := by
  refine sp_weak ?_
  refine sp_of_ex true [] mixed Tryz.call163 Tryz.func163 rfl Tryz.ntmps163 Tryz.results163 (by decide +kernel) rfl ?_
  refine sxg ?_
  try with_reducible exact trivial
  refine tr_un mixed (by kernel_rfl) ?_
  refine sxg ?_
  try with_reducible exact trivial
  intro cap hcap
  refine tl_un mixed (by kernel_rfl) ?_
  refine sxg ?_
  try with_reducible exact trivial
  refine Or.inr fun cap2 hcap2 => ?_
  refine tl_un mixed (by kernel_rfl) ?_
  refine sxg ?_
  try with_reducible exact trivial
  refine ⟨_, _, [0, 6], ?_, by kernel_rfl, ?_, cap2, hcap2, rfl, rfl⟩
  · refine sxg ?_
    try with_reducible exact trivial
  · refine sxg ?_
    try with_reducible exact trivial
    intro _ _ k hk
    rcases k with _ | _ | k
    · exact ⟨rfl, rfl, rfl, rfl, rfl, rfl, trivial⟩
    · exact ⟨rfl, rfl, rfl, rfl, rfl, rfl, trivial⟩
    · omega
theorem hull0_pu (c : Nat) : Pu Tryz.prog 162 [.s 0 0 0 2 c 6] [rBxs [⟨⟨50, 50, 100⟩, ⟨50, 50, 100⟩⟩, ⟨⟨350, 50, 100⟩, ⟨350, 50, 100⟩⟩]] (.t [.a (cX bx0), .v (.int .i64 0)]) := by
  have ha := ball_pu [⟨⟨50, 50, 100⟩, ⟨50, 50, 100⟩⟩, ⟨⟨350, 50, 100⟩, ⟨350, 50, 100⟩⟩] c (by decide)
  rw [show List.all [⟨⟨50, 50, 100⟩, ⟨50, 50, 100⟩⟩, ⟨⟨350, 50, 100⟩, ⟨350, 50, 100⟩⟩] vxB = true by decide +kernel] at ha
  refine pu_of_ex true [] mixed Tryz.call162 Tryz.func162 rfl Tryz.ntmps162 Tryz.results162 (by decide +kernel) rfl rfl rfl ?_
  refine sxg ?_
  try with_reducible exact trivial
  refine sp_c (ha) rfl [0] ?_
  refine sxg ?_
  try with_reducible exact trivial
  refine tr_un mixed (by kernel_rfl) ?_
  refine sxg ?_
  try with_reducible exact trivial
  refine tl_un mixed (by kernel_rfl) ?_
  refine sxg ?_
  try with_reducible exact trivial
  refine tl_un mixed (by kernel_rfl) ?_
  refine sxg ?_
  try with_reducible exact trivial
theorem hull1_pu (c : Nat) : Pu Tryz.prog 162 [.s 0 0 0 2 c 6] [rBxs [⟨⟨50, 80, 100⟩, ⟨50, 80, 100⟩⟩, ⟨⟨350, 80, 100⟩, ⟨350, 80, 100⟩⟩]] (.t [.a (cX bx1), .v (.int .i64 0)]) := by
  have ha := ball_pu [⟨⟨50, 80, 100⟩, ⟨50, 80, 100⟩⟩, ⟨⟨350, 80, 100⟩, ⟨350, 80, 100⟩⟩] c (by decide)
  rw [show List.all [⟨⟨50, 80, 100⟩, ⟨50, 80, 100⟩⟩, ⟨⟨350, 80, 100⟩, ⟨350, 80, 100⟩⟩] vxB = true by decide +kernel] at ha
  refine pu_of_ex true [] mixed Tryz.call162 Tryz.func162 rfl Tryz.ntmps162 Tryz.results162 (by decide +kernel) rfl rfl rfl ?_
  refine sxg ?_
  try with_reducible exact trivial
  refine sp_c (ha) rfl [0] ?_
  refine sxg ?_
  try with_reducible exact trivial
  refine tr_un mixed (by kernel_rfl) ?_
  refine sxg ?_
  try with_reducible exact trivial
  refine tl_un mixed (by kernel_rfl) ?_
  refine sxg ?_
  try with_reducible exact trivial
  refine tl_un mixed (by kernel_rfl) ?_
  refine sxg ?_
  try with_reducible exact trivial
end Go.Proofs.YtolioflblegneaaGreat
namespace Go.Proofs.YtolioflblegneaaGreat
open Go.RowKit
def bxI (i : Int) : Bx := if i = 0 then bx0 else bx1
set_option maxHeartbeats 8000000 in
theorem llegs_sp (c c2 : Nat) (i : Int) (h : i = 0 ∨ i = 1) : Sp Tryz.prog 119 [.s 0 0 0 1 c 5, .s 2 0 0 1 c2 10, .v (.int .i64 i)] G0 (fun r H => ∃ cap, 1 ≤ cap ∧ r = .t [.s 3 0 0 1 cap 6, .v (.int .i64 0)] ∧ H = G0 ++ [oBxs [bxI i] cap]) := by
  have hp := lpath_sp c c2 i h
  refine sp_weak ?_
  rcases h with rfl | rfl
  · refine sp_of_ex true [] mixed Tryz.call119 Tryz.func119 rfl Tryz.ntmps119 Tryz.results119 (by decide +kernel) rfl ?_
    refine sxg ?_
    try with_reducible exact trivial
    refine sp_at hp [0, 1, 2] (by kernel_rfl) ?_ ?_ ?_
    · refine sxg ?_
      try with_reducible exact trivial
    · refine sxg ?_
      try with_reducible exact trivial
    rintro _ _ ⟨rfl, rfl⟩
    refine sxg ?_
    try with_reducible exact trivial
    refine tr_un mixed (by kernel_rfl) ?_
    refine sxg ?_
    try with_reducible exact trivial
    refine sp_at (points_sp ⟨50, 50, 100⟩ ⟨350, 50, 100⟩ 2) [3] (by kernel_rfl) ?_ ?_ ?_
    · refine sxg ?_
      try with_reducible exact trivial
    · refine sxg ?_
      try with_reducible exact trivial
      exact fun _ _ => ⟨Nat.le_refl _, fun k _ => ⟨rfl, rfl, rfl⟩⟩
    rintro _ _ ⟨cap, hcap, rfl, rfl⟩
    refine sxg ?_
    try with_reducible exact trivial
    refine sp_call (hull0_pu cap) rfl [4] rfl ?_ ?_ ?_
    · refine sxg ?_
      try with_reducible exact trivial
    · refine sxg ?_
      try with_reducible exact trivial
      try exact fun _ _ => Nat.le_refl _
    refine sxg ?_
    try with_reducible exact trivial
    intro cap2 hcap2
    refine tl_un mixed (by kernel_rfl) ?_
    refine sxg ?_
    try with_reducible exact trivial
    refine ⟨_, _, [0, 1, 2, 7], ?_, by kernel_rfl, ?_, cap2, hcap2, rfl, rfl⟩
    · refine sxg ?_
      try with_reducible exact trivial
    · refine sxg ?_
      try with_reducible exact trivial
      intro _ _ k hk
      obtain rfl : k = 0 := by omega
      exact ⟨rfl, rfl, rfl, rfl, rfl, rfl, trivial⟩
  · refine sp_of_ex true [] mixed Tryz.call119 Tryz.func119 rfl Tryz.ntmps119 Tryz.results119 (by decide +kernel) rfl ?_
    refine sxg ?_
    try with_reducible exact trivial
    refine sp_at hp [0, 1, 2] (by kernel_rfl) ?_ ?_ ?_
    · refine sxg ?_
      try with_reducible exact trivial
    · refine sxg ?_
      try with_reducible exact trivial
    rintro _ _ ⟨rfl, rfl⟩
    refine sxg ?_
    try with_reducible exact trivial
    refine tr_un mixed (by kernel_rfl) ?_
    refine sxg ?_
    try with_reducible exact trivial
    refine sp_at (points_sp ⟨50, 80, 100⟩ ⟨350, 80, 100⟩ 2) [3] (by kernel_rfl) ?_ ?_ ?_
    · refine sxg ?_
      try with_reducible exact trivial
    · refine sxg ?_
      try with_reducible exact trivial
      exact fun _ _ => ⟨Nat.le_refl _, fun k _ => ⟨rfl, rfl, rfl⟩⟩
    rintro _ _ ⟨cap, hcap, rfl, rfl⟩
    refine sxg ?_
    try with_reducible exact trivial
    refine sp_call (hull1_pu cap) rfl [4] rfl ?_ ?_ ?_
    · refine sxg ?_
      try with_reducible exact trivial
    · refine sxg ?_
      try with_reducible exact trivial
      try exact fun _ _ => Nat.le_refl _
    refine sxg ?_
    try with_reducible exact trivial
    intro cap2 hcap2
    refine tl_un mixed (by kernel_rfl) ?_
    refine sxg ?_
    try with_reducible exact trivial
    refine ⟨_, _, [0, 1, 2, 7], ?_, by kernel_rfl, ?_, cap2, hcap2, rfl, rfl⟩
    · refine sxg ?_
      try with_reducible exact trivial
    · refine sxg ?_
      try with_reducible exact trivial
      intro _ _ k hk
      obtain rfl : k = 0 := by omega
      exact ⟨rfl, rfl, rfl, rfl, rfl, rfl, trivial⟩
end Go.Proofs.YtolioflblegneaaGreat
