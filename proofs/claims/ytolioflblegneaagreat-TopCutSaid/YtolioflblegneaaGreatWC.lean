/- Contracts: bars as objects; legs and dimensions of shapes; sizes. Contracts: valid bars, valid schedules. Contracts: the bar with a mark; valid schedules. -/
import Derived.Test.YtolioflblegneaaGreatWA
import Derived.Test.YtolioflblegneaaGreatWB
set_option maxRecDepth 100000
set_option linter.unusedSimpArgs false
set_option linter.unusedVariables false
namespace Go.Proofs.YtolioflblegneaaGreat
open Go.RowKit
structure Ba where
  nm : ByteArray
  sz : Int
  ct : Int
  cd : Int
  ds : List Int
instance : Inhabited Ba := ⟨⟨ByteArray.empty, 0, 0, 0, []⟩⟩
def cBa (j k cp : Nat) (b : Ba) : List SV := [.v (.string b.nm), .v (.int .i64 b.sz), .v (.int .i64 b.ct), .v (.int .i64 b.cd), .s j k 0 b.ds.length cp 1]
/-- Bars that are only read; their dimensions lie in object j. -/
def rBa (j : Nat) (l : List Ba) (cp : Nat → Nat) : Ob := ⟨58, true, .row 5 1 (fun _ => l.length) (fun _ => 0) (fun _ k => cBa j k (cp k) (ix l k))⟩
def rDs (l : List Ba) : Ob := ⟨3, true, .row 1 l.length (fun k => (ix l k).ds.length) (fun _ => 0) (fun k t => [.v (.int .i64 (ix (ix l k).ds t))])⟩
/-- A shape's legs. -/
def oLg (l : List (Int × Int)) : Ob := ⟨254, false, .row 2 1 (fun _ => l.length) (fun _ => l.length) (fun _ k => [.v (.int .i64 (ix l k).1), .v (.int .u8 (ix l k).2)])⟩
attribute [push_cast] cBa rBa rDs oLg
def legsT (c : Int) : List (Int × Int) :=
  if c = 0 then [(0, 120)] else if c = 11 then [(0, 120), (1, 121)] else if c = 21 then [(0, 89), (1, 120), (2, 121)] else if c = 26 then [(0, 120), (1, 121), (2, 120)]
  else if c = 31 then [(0, 120), (1, 121), (2, 122)] else if c = 41 then [(0, 120), (1, 121), (2, 120), (3, 89), (4, 120)] else if c = 51 then [(2, 89), (0, 120), (1, 121), (0, 88), (1, 89), (2, 120)]
  else if c = 98 then [(0, 122), (1, 89), (2, 120), (1, 121), (0, 122)] else []
set_option maxHeartbeats 4000000 in
theorem legs_sp (c : Int) : Sp Tryz.prog 173 [.v (.int .i64 c)] [] (fun r H => r = .s 0 0 0 (legsT c).length (legsT c).length 2 ∧ H = [oLg (legsT c)]) := by
  refine sp_weak ?_
  refine sp_of_ex true [] mixed Tryz.call173 Tryz.func173 rfl Tryz.ntmps173 Tryz.results173 (by decide +kernel) rfl ?_
  refine sxq ?_
  try with_reducible exact trivial
  repeat' (with_reducible (first | apply And.intro | intro _))
  · have e : legsT c = [(0, 120)] := by unfold legsT; simp [*]
    rw [e]
    refine ⟨_, _, [0], ?_, by kernel_rfl, ?_, rfl, rfl⟩
    · refine sxq ?_
      try with_reducible exact trivial
    · refine sxq ?_
      try with_reducible exact trivial
      try (intro _ _ k hk; rcases k with _ | _ | _ | _ | _ | _ | k <;> first | (exfalso; omega) | ((simp only [push_cast, ↓branch_true, ↓branch_false, Nat.reduceBEq, Nat.reduceAdd, Nat.reduceMul, Nat.reduceSub, Int.reduceToNat, reduceCtorEq, Int.reduceAdd, Int.reduceEq, Int.reduceLE, Int.reduceLT, Nat.reduceLT, Nat.reduceLeDiff]); done) | ((simp only [push_cast, ↓branch_true, ↓branch_false, Nat.reduceBEq, Nat.reduceAdd, Nat.reduceMul, Nat.reduceSub, Int.reduceToNat, reduceCtorEq, Int.reduceAdd, Int.reduceEq, Int.reduceLE, Int.reduceLT, Nat.reduceLT, Nat.reduceLeDiff]); exact ⟨rfl, rfl⟩))
  · have e : legsT c = [(0, 120), (1, 121)] := by unfold legsT; simp [*]
    rw [e]
    refine ⟨_, _, [0], ?_, by kernel_rfl, ?_, rfl, rfl⟩
    · refine sxq ?_
      try with_reducible exact trivial
    · refine sxq ?_
      try with_reducible exact trivial
      try (intro _ _ k hk; rcases k with _ | _ | _ | _ | _ | _ | k <;> first | (exfalso; omega) | ((simp only [push_cast, ↓branch_true, ↓branch_false, Nat.reduceBEq, Nat.reduceAdd, Nat.reduceMul, Nat.reduceSub, Int.reduceToNat, reduceCtorEq, Int.reduceAdd, Int.reduceEq, Int.reduceLE, Int.reduceLT, Nat.reduceLT, Nat.reduceLeDiff]); done) | ((simp only [push_cast, ↓branch_true, ↓branch_false, Nat.reduceBEq, Nat.reduceAdd, Nat.reduceMul, Nat.reduceSub, Int.reduceToNat, reduceCtorEq, Int.reduceAdd, Int.reduceEq, Int.reduceLE, Int.reduceLT, Nat.reduceLT, Nat.reduceLeDiff]); exact ⟨rfl, rfl⟩))
  · have e : legsT c = [(0, 89), (1, 120), (2, 121)] := by unfold legsT; simp [*]
    rw [e]
    refine ⟨_, _, [0], ?_, by kernel_rfl, ?_, rfl, rfl⟩
    · refine sxq ?_
      try with_reducible exact trivial
    · refine sxq ?_
      try with_reducible exact trivial
      try (intro _ _ k hk; rcases k with _ | _ | _ | _ | _ | _ | k <;> first | (exfalso; omega) | ((simp only [push_cast, ↓branch_true, ↓branch_false, Nat.reduceBEq, Nat.reduceAdd, Nat.reduceMul, Nat.reduceSub, Int.reduceToNat, reduceCtorEq, Int.reduceAdd, Int.reduceEq, Int.reduceLE, Int.reduceLT, Nat.reduceLT, Nat.reduceLeDiff]); done) | ((simp only [push_cast, ↓branch_true, ↓branch_false, Nat.reduceBEq, Nat.reduceAdd, Nat.reduceMul, Nat.reduceSub, Int.reduceToNat, reduceCtorEq, Int.reduceAdd, Int.reduceEq, Int.reduceLE, Int.reduceLT, Nat.reduceLT, Nat.reduceLeDiff]); exact ⟨rfl, rfl⟩))
  · have e : legsT c = [(0, 120), (1, 121), (2, 120)] := by unfold legsT; simp [*]
    rw [e]
    refine ⟨_, _, [0], ?_, by kernel_rfl, ?_, rfl, rfl⟩
    · refine sxq ?_
      try with_reducible exact trivial
    · refine sxq ?_
      try with_reducible exact trivial
      try (intro _ _ k hk; rcases k with _ | _ | _ | _ | _ | _ | k <;> first | (exfalso; omega) | ((simp only [push_cast, ↓branch_true, ↓branch_false, Nat.reduceBEq, Nat.reduceAdd, Nat.reduceMul, Nat.reduceSub, Int.reduceToNat, reduceCtorEq, Int.reduceAdd, Int.reduceEq, Int.reduceLE, Int.reduceLT, Nat.reduceLT, Nat.reduceLeDiff]); done) | ((simp only [push_cast, ↓branch_true, ↓branch_false, Nat.reduceBEq, Nat.reduceAdd, Nat.reduceMul, Nat.reduceSub, Int.reduceToNat, reduceCtorEq, Int.reduceAdd, Int.reduceEq, Int.reduceLE, Int.reduceLT, Nat.reduceLT, Nat.reduceLeDiff]); exact ⟨rfl, rfl⟩))
  · have e : legsT c = [(0, 120), (1, 121), (2, 122)] := by unfold legsT; simp [*]
    rw [e]
    refine ⟨_, _, [0], ?_, by kernel_rfl, ?_, rfl, rfl⟩
    · refine sxq ?_
      try with_reducible exact trivial
    · refine sxq ?_
      try with_reducible exact trivial
      try (intro _ _ k hk; rcases k with _ | _ | _ | _ | _ | _ | k <;> first | (exfalso; omega) | ((simp only [push_cast, ↓branch_true, ↓branch_false, Nat.reduceBEq, Nat.reduceAdd, Nat.reduceMul, Nat.reduceSub, Int.reduceToNat, reduceCtorEq, Int.reduceAdd, Int.reduceEq, Int.reduceLE, Int.reduceLT, Nat.reduceLT, Nat.reduceLeDiff]); done) | ((simp only [push_cast, ↓branch_true, ↓branch_false, Nat.reduceBEq, Nat.reduceAdd, Nat.reduceMul, Nat.reduceSub, Int.reduceToNat, reduceCtorEq, Int.reduceAdd, Int.reduceEq, Int.reduceLE, Int.reduceLT, Nat.reduceLT, Nat.reduceLeDiff]); exact ⟨rfl, rfl⟩))
  · have e : legsT c = [(0, 120), (1, 121), (2, 120), (3, 89), (4, 120)] := by unfold legsT; simp [*]
    rw [e]
    refine ⟨_, _, [0], ?_, by kernel_rfl, ?_, rfl, rfl⟩
    · refine sxq ?_
      try with_reducible exact trivial
    · refine sxq ?_
      try with_reducible exact trivial
      try (intro _ _ k hk; rcases k with _ | _ | _ | _ | _ | _ | k <;> first | (exfalso; omega) | ((simp only [push_cast, ↓branch_true, ↓branch_false, Nat.reduceBEq, Nat.reduceAdd, Nat.reduceMul, Nat.reduceSub, Int.reduceToNat, reduceCtorEq, Int.reduceAdd, Int.reduceEq, Int.reduceLE, Int.reduceLT, Nat.reduceLT, Nat.reduceLeDiff]); done) | ((simp only [push_cast, ↓branch_true, ↓branch_false, Nat.reduceBEq, Nat.reduceAdd, Nat.reduceMul, Nat.reduceSub, Int.reduceToNat, reduceCtorEq, Int.reduceAdd, Int.reduceEq, Int.reduceLE, Int.reduceLT, Nat.reduceLT, Nat.reduceLeDiff]); exact ⟨rfl, rfl⟩))
  · have e : legsT c = [(2, 89), (0, 120), (1, 121), (0, 88), (1, 89), (2, 120)] := by unfold legsT; simp [*]
    rw [e]
    refine ⟨_, _, [0], ?_, by kernel_rfl, ?_, rfl, rfl⟩
    · refine sxq ?_
      try with_reducible exact trivial
    · refine sxq ?_
      try with_reducible exact trivial
      try (intro _ _ k hk; rcases k with _ | _ | _ | _ | _ | _ | k <;> first | (exfalso; omega) | ((simp only [push_cast, ↓branch_true, ↓branch_false, Nat.reduceBEq, Nat.reduceAdd, Nat.reduceMul, Nat.reduceSub, Int.reduceToNat, reduceCtorEq, Int.reduceAdd, Int.reduceEq, Int.reduceLE, Int.reduceLT, Nat.reduceLT, Nat.reduceLeDiff]); done) | ((simp only [push_cast, ↓branch_true, ↓branch_false, Nat.reduceBEq, Nat.reduceAdd, Nat.reduceMul, Nat.reduceSub, Int.reduceToNat, reduceCtorEq, Int.reduceAdd, Int.reduceEq, Int.reduceLE, Int.reduceLT, Nat.reduceLT, Nat.reduceLeDiff]); exact ⟨rfl, rfl⟩))
  · have e : legsT c = [(0, 122), (1, 89), (2, 120), (1, 121), (0, 122)] := by unfold legsT; simp [*]
    rw [e]
    refine ⟨_, _, [0], ?_, by kernel_rfl, ?_, rfl, rfl⟩
    · refine sxq ?_
      try with_reducible exact trivial
    · refine sxq ?_
      try with_reducible exact trivial
      try (intro _ _ k hk; rcases k with _ | _ | _ | _ | _ | _ | k <;> first | (exfalso; omega) | ((simp only [push_cast, ↓branch_true, ↓branch_false, Nat.reduceBEq, Nat.reduceAdd, Nat.reduceMul, Nat.reduceSub, Int.reduceToNat, reduceCtorEq, Int.reduceAdd, Int.reduceEq, Int.reduceLE, Int.reduceLT, Nat.reduceLT, Nat.reduceLeDiff]); done) | ((simp only [push_cast, ↓branch_true, ↓branch_false, Nat.reduceBEq, Nat.reduceAdd, Nat.reduceMul, Nat.reduceSub, Int.reduceToNat, reduceCtorEq, Int.reduceAdd, Int.reduceEq, Int.reduceLE, Int.reduceLT, Nat.reduceLT, Nat.reduceLeDiff]); exact ⟨rfl, rfl⟩))
  · have e : legsT c = [] := by unfold legsT; simp [*]
    rw [e]
    refine ⟨_, _, [1000], ?_, by kernel_rfl, ?_, rfl, rfl⟩
    · refine sxq ?_
      try with_reducible exact trivial
    · refine sxq ?_
      try with_reducible exact trivial
      try (intro _ _ k hk; rcases k with _ | _ | _ | _ | _ | _ | k <;> first | (exfalso; omega) | ((simp only [push_cast, ↓branch_true, ↓branch_false, Nat.reduceBEq, Nat.reduceAdd, Nat.reduceMul, Nat.reduceSub, Int.reduceToNat, reduceCtorEq, Int.reduceAdd, Int.reduceEq, Int.reduceLE, Int.reduceLT, Nat.reduceLT, Nat.reduceLeDiff]); done) | ((simp only [push_cast, ↓branch_true, ↓branch_false, Nat.reduceBEq, Nat.reduceAdd, Nat.reduceMul, Nat.reduceSub, Int.reduceToNat, reduceCtorEq, Int.reduceAdd, Int.reduceEq, Int.reduceLE, Int.reduceLT, Nat.reduceLT, Nat.reduceLeDiff]); exact ⟨rfl, rfl⟩))
def mxL (l : List (Int × Int)) : Nat → Int
  | 0 => -1
  | k + 1 => max (mxL l k) (ix l k).1
def dimN (c : Int) : Int := mxL (legsT c) (legsT c).length
theorem legs_cases (c : Int) : (c = 0 ∨ c = 11 ∨ c = 21 ∨ c = 26 ∨ c = 31 ∨ c = 41 ∨ c = 51 ∨ c = 98) ∨ legsT c = [] := by
  unfold legsT
  repeat' split
  all_goals first | (left; omega) | exact .inr rfl
theorem legs_len (c : Int) : (legsT c).length ≤ 6 := by
  rcases legs_cases c with (rfl | rfl | rfl | rfl | rfl | rfl | rfl | rfl) | h
  all_goals first | decide | (rw [h]; decide)
theorem dimN_range (c : Int) : -1 ≤ dimN c ∧ dimN c ≤ 4 := by
  unfold dimN
  rcases legs_cases c with (rfl | rfl | rfl | rfl | rfl | rfl | rfl | rfl) | h
  all_goals first | decide | (rw [h]; decide)
set_option maxHeartbeats 4000000 in
theorem dims_sp (c : Int) : Sp Tryz.prog 135 [.v (.int .i64 c)] [] (fun r H => r = .t [.v (.int .i64 (dimN c + 1)), .v (.int .i64 (if dimN c < 0 then 11 else 0))] ∧ H = []) := by
  have hl := legs_len c
  have hr := dimN_range c
  have hd : dimN c = mxL (legsT c) (legsT c).length := rfl
  refine sp_weak ?_
  refine sp_of_ex true [] mixed Tryz.call135 Tryz.func135 rfl Tryz.ntmps135 Tryz.results135 (by decide +kernel) rfl ?_
  refine sxq ?_
  try with_reducible exact trivial
  refine sp_at (legs_sp c) [] (by kernel_rfl) ?_ ?_ ?_
  · refine sxq ?_
    try with_reducible exact trivial
  · refine sxq ?_
    try with_reducible exact trivial
  rintro _ _ ⟨rfl, rfl⟩
  generalize legsT c = L at *
  refine sxq ?_
  try with_reducible exact trivial
  refine tr_loop mixed (by kernel_rfl) (fun (k : Nat) => [(10, .v (.int .i64 k)), (9, .v (.int .i64 L.length)), (8, .s 0 0 0 L.length L.length 2), (4, .v (.int .i64 (mxL L k)))]) (fun _ => [oLg L]) (fun k => k ≤ L.length) (fun k => L.length - k) 0 (Nat.zero_le _) (Mt.wk (rl := [0]) ⟨by kernel_rfl, ?_, ?_⟩) ?_
  · refine sxq ?_
    try with_reducible exact trivial
    rfl
  · refine sxq ?_
    try with_reducible exact trivial
  intro k hk
  refine sxq ?_
  try with_reducible exact trivial
  refine ⟨fun h => ?_, fun h => ?_⟩
  · repeat (with_reducible refine And.intro (by omega) ?_)
    refine lpK_normal (k + 1) [0] (by omega) (by omega) (by kernel_rfl) ?_ ?_
    · refine sxq ?_
      try with_reducible exact trivial
      rfl
    · refine sxq ?_
      try with_reducible exact trivial
  · obtain rfl : k = L.length := by omega
    rw [← hd]
    refine ⟨fun h1 => ?_, fun h1 => ?_⟩
    · have e : dimN c = -1 := by omega
      rw [e]
      refine ⟨_, _, [], ?_, by kernel_rfl, ?_, rfl, rfl⟩
      · refine sxq ?_
        try with_reducible exact trivial
      · refine sxq ?_
        try with_reducible exact trivial
    · repeat (with_reducible refine And.intro (by omega) ?_)
      rw [if_neg h1]
      refine ⟨_, _, [], ?_, by kernel_rfl, ?_, rfl, rfl⟩
      · refine sxq ?_
        try with_reducible exact trivial
      · refine sxq ?_
        try with_reducible exact trivial
/-- The first place of a number in a row that is only read. -/
theorem index_pu (l : List Int) (c : Nat) (x : Int) (hl : l.length ≤ 9223372036854775806) : Pu Tryz.prog 139 [.s 0 0 0 l.length c 1, .v (.int .i64 x)] [rInt 3 l] (.v (.int .i64 (idxB (fun y => x == y) l 0))) := by
  refine pu_of_ex true [] mixed Tryz.call139 Tryz.func139 rfl Tryz.ntmps139 Tryz.results139 (by decide +kernel) rfl rfl rfl ?_
  refine sxq ?_
  try with_reducible exact trivial
  refine tr_loop0 mixed (by kernel_rfl) (fun (k : Nat) => [(8, .v (.int .i64 k)), (7, .v (.int .i64 l.length)), (0, .s 0 0 0 l.length c 1), (1, .v (.int .i64 x))]) (fun k => k ≤ l.length ∧ ∀ j, j < k → (x == ix l j) = false) (fun k => l.length - k) 0 ⟨Nat.zero_le _, fun j hj => absurd hj (Nat.not_lt_zero _)⟩ ?_ ?_
  · refine sxq ?_
    try with_reducible exact trivial
  rintro k ⟨hk, hn⟩
  refine sxq ?_
  try with_reducible exact trivial
  refine ⟨fun h1 => ?_, fun h1 => ?_⟩
  · repeat (with_reducible refine And.intro (by omega) ?_)
    refine ⟨fun h2 => ?_, fun h2 => ?_⟩
    · rw [idxB_at (fun y => x == y) l 0 k (by omega) hn (by simpa using h2)]; simp
    · repeat (with_reducible refine And.intro (by omega) ?_)
      refine lp0_normal (k + 1) ⟨by omega, fun j hj => ?_⟩ (by omega) ?_
      · by_cases e : j = k
        · rw [e]; simpa using h2
        · exact hn j (by omega)
      · refine sxq ?_
        try with_reducible exact trivial
  · rw [idxB_none (fun y => x == y) l 0 fun j hj => hn j (by omega)]
theorem contains_pu (l : List Int) (c : Nat) (x : Int) (hl : l.length ≤ 9223372036854775806) : Pu Tryz.prog 102 [.s 0 0 0 l.length c 1, .v (.int .i64 x)] [rInt 3 l] (.v (.bool (l.any fun y => x == y))) := by
  refine pu_of_ex true [] mixed Tryz.call102 Tryz.func102 rfl Tryz.ntmps102 Tryz.results102 (by decide +kernel) rfl rfl rfl ?_
  refine sxq ?_
  try with_reducible exact trivial
  refine sp_c (index_pu l c x hl) rfl [0] ?_
  refine sxq ?_
  try with_reducible exact trivial
  rw [idxB_any (fun y => x == y) l 0 (Int.le_refl 0)]
def szL : List Int := [6, 8, 10, 12, 16, 20, 25, 32, 40]
theorem sizes_sp : Sp Tryz.prog 22 [] [] (fun r H => r = .s 0 0 0 9 9 1 ∧ H = [rOwn 3 9 9 (fun k => ix szL k)]) := by
  refine sp_weak ?_
  refine sp_of_ex true [] mixed Tryz.call22 Tryz.func22 rfl Tryz.ntmps22 Tryz.results22 (by decide +kernel) rfl ?_
  refine sxq ?_
  try with_reducible exact trivial
  refine ⟨_, _, [0], ?_, by kernel_rfl, ?_, rfl, rfl⟩
  · refine sxq ?_
    try with_reducible exact trivial
  · refine sxq ?_
    try with_reducible exact trivial
    intro _ _ k hk
    rcases k with _ | _ | _ | _ | _ | _ | _ | _ | _ | k
    all_goals first | (exfalso; omega) | ((simp only [push_cast, ↓branch_true, ↓branch_false, Nat.reduceBEq, Nat.reduceAdd, Nat.reduceMul, Nat.reduceSub, Int.reduceToNat, reduceCtorEq, Int.reduceAdd, Int.reduceEq, Int.reduceLE, Int.reduceLT, Nat.reduceLT, Nat.reduceLeDiff]); rfl)
def szB (d : Int) : Bool := szL.any fun y => d == y
theorem size_pu (d : Int) : Pu Tryz.prog 59 [.v (.int .i64 d)] [] (.v (.bool (szB d))) := by
  refine pu_of_ex true [] mixed Tryz.call59 Tryz.func59 rfl Tryz.ntmps59 Tryz.results59 (by decide +kernel) rfl rfl rfl ?_
  refine sxq ?_
  try with_reducible exact trivial
  refine sp_at sizes_sp [] (by kernel_rfl) ?_ ?_ ?_
  · refine sxq ?_
    try with_reducible exact trivial
  · refine sxq ?_
    try with_reducible exact trivial
  rintro _ _ ⟨rfl, rfl⟩
  refine sxq ?_
  try with_reducible exact trivial
  refine sp_call (contains_pu szL 9 d (by decide)) rfl [0] rfl ?_ ?_ ?_
  · refine sxq ?_
    try with_reducible exact trivial
    rfl
  · refine sxq ?_
    try with_reducible exact trivial
    exact fun _ _ => Nat.le_refl _
  refine sxq ?_
  try with_reducible exact trivial
  rfl
end Go.Proofs.YtolioflblegneaaGreat
namespace Go.Proofs.YtolioflblegneaaGreat
open Go.RowKit
/-- The dimensions are positive, and their sum is small enough. -/
def dsB : List Int → Int → Bool
  | [], _ => true
  | n :: l, r => decide (1 ≤ n) && decide (n ≤ r) && dsB l (r - n)
def baB (b : Ba) : Bool := decide (0 ≤ dimN b.cd) && nameB b.nm && szB b.sz && decide (1 ≤ b.ct) && decide (b.ct ≤ 1000) && decide ((b.ds.length : Int) = dimN b.cd + 1) && dsB b.ds 262144
set_option maxHeartbeats 4000000 in
theorem svalid_pu (l : List Ba) (k : Nat) (cp : Nat) (hk : k < l.length) (hs : (ix l k).nm.size ≤ 9223372036854775807) (hd : (ix l k).ds.length ≤ 9223372036854775806) :
    Pu Tryz.prog 100 [.a (cBa 0 k cp (ix l k))] [rDs l] (.v (.bool (baB (ix l k)))) := by
  have hr := dimN_range (ix l k).cd
  refine pu_of_ex true [] mixed Tryz.call100 Tryz.func100 rfl Tryz.ntmps100 Tryz.results100 (by decide +kernel) rfl rfl rfl ?_
  refine sxq ?_
  try with_reducible exact trivial
  refine sp_at (dims_sp (ix l k).cd) [] (by kernel_rfl) ?_ ?_ ?_
  · refine sxq ?_
    try with_reducible exact trivial
  · refine sxq ?_
    try with_reducible exact trivial
  rintro _ _ ⟨rfl, rfl⟩
  have hnm := name_pu (ix l k).nm hs
  have hsz := size_pu (ix l k).sz
  unfold baB
  generalize hN : nameB (ix l k).nm = N at *
  generalize hZ : szB (ix l k).sz = Z at *
  generalize hM : dimN (ix l k).cd = M at *
  by_cases hn : M < 0
  · rw [if_pos hn, decide_eq_false (show ¬ 0 ≤ M by omega)]
    refine sxq ?_
    try with_reducible exact trivial
  rw [if_neg hn, decide_eq_true (show 0 ≤ M by omega)]
  refine sxq ?_
  try with_reducible exact trivial
  refine sp_c (hnm) rfl [] ?_
  refine sxq ?_
  try with_reducible exact trivial
  cases N with
  | false =>
    refine sxq ?_
    try with_reducible exact trivial
    try rfl
  | true =>
  refine sxq ?_
  try with_reducible exact trivial
  refine sp_c (hsz) rfl [] ?_
  refine sxq ?_
  try with_reducible exact trivial
  cases Z with
  | false =>
    refine sxq ?_
    try with_reducible exact trivial
    try rfl
  | true =>
  refine sxq ?_
  try with_reducible exact trivial
  refine ⟨fun h1 => ?_, fun h1 => ⟨fun h2 => ?_, fun h2 => ⟨fun h3 => ?_, fun h3 => ?_⟩⟩⟩
  · rw [decide_eq_false (show ¬ 1 ≤ (ix l k).ct by omega)]; rfl
  · rw [decide_eq_false (show ¬ (ix l k).ct ≤ 1000 by omega)]; simp
  · rw [decide_eq_true (show 1 ≤ (ix l k).ct by omega), decide_eq_true (show (ix l k).ct ≤ 1000 by omega), decide_eq_true h3]
    simp only [Bool.true_and]
    refine tr_loop0 mixed (by kernel_rfl) (fun (x : Nat × Int) => [(48, .v (.int .i64 x.1)), (47, .v (.int .i64 (ix l k).ds.length)), (46, .s 0 k 0 (ix l k).ds.length cp 1), (5, .v (.int .i64 x.2))])
      (fun x => x.1 ≤ (ix l k).ds.length ∧ 0 ≤ x.2 ∧ x.2 ≤ 262144 ∧ dsB (ix l k).ds 262144 = dsB ((ix l k).ds.drop x.1) x.2) (fun x => (ix l k).ds.length - x.1) (0, 262144) ⟨Nat.zero_le _, by decide, Int.le_refl _, rfl⟩ ?_ ?_
    · refine sxq ?_
      try with_reducible exact trivial
    rintro ⟨i, r⟩ ⟨k1, k2, k3, k4⟩
    simp only at k1 k2 k3 k4
    refine sxq ?_
    try with_reducible exact trivial
    refine ⟨fun h4 => ?_, fun h4 => ?_⟩
    · have hi : i < (ix l k).ds.length := by omega
      rw [drop_ix hi] at k4
      have e : dsB (ix (ix l k).ds i :: (ix l k).ds.drop (i + 1)) r = (decide (1 ≤ ix (ix l k).ds i) && decide (ix (ix l k).ds i ≤ r) && dsB ((ix l k).ds.drop (i + 1)) (r - ix (ix l k).ds i)) := rfl
      rw [e] at k4
      generalize ix (ix l k).ds i = n at *
      repeat (with_reducible refine And.intro (by omega) ?_)
      refine ⟨fun h5 => ?_, fun h5 => ⟨fun h6 => ?_, fun h6 => ?_⟩⟩
      · rw [k4, decide_eq_false (show ¬ 1 ≤ n by omega)]; rfl
      · rw [k4, decide_eq_false (show ¬ n ≤ r by omega)]; simp
      · rw [decide_eq_true (show 1 ≤ n by omega), decide_eq_true (show n ≤ r by omega)] at k4
        repeat (with_reducible refine And.intro (by omega) ?_)
        refine lp0_normal (i + 1, r - n) ⟨by simp only; omega, by simp only; omega, by simp only; omega, k4⟩ (by simp only; omega) ?_
        refine sxq ?_
        try with_reducible exact trivial
    · have e : (ix l k).ds.drop i = [] := List.drop_eq_nil_of_le (by omega)
      rw [e] at k4
      rw [k4]
      rfl
  · rw [decide_eq_false h3]; simp
end Go.Proofs.YtolioflblegneaaGreat
namespace Go.Proofs.YtolioflblegneaaGreat
open Go.RowKit
theorem indexBa_pu (l : List Ba) (cp : Nat → Nat) (c : Nat) (g : FuncId) (fs cs : List SV) (H : List Ob) (p : Ba → Bool) (hro : roB H = true) (hl : l.length ≤ 9223372036854775807)
    (hp : ∀ k, k < l.length → Pu Tryz.prog g (fs ++ [.a (cBa 1 k (cp k) (ix l k))] ++ cs) (rBa 1 l cp :: rDs l :: H) (.v (.bool (p (ix l k))))) : Pu Tryz.prog 137 [.s 0 0 0 l.length c 5, .f (.func g) fs cs] (rBa 1 l cp :: rDs l :: H) (.v (.int .i64 (idxB p l 0))) := by
  refine pu_of_ex true [] mixed Tryz.call137 Tryz.func137 rfl Tryz.ntmps137 Tryz.results137 (by decide +kernel) rfl (by simp [roB, hro, rBa, rDs]) rfl ?_
  refine sxq ?_
  try with_reducible exact trivial
  refine tr_loop0 mixed (by kernel_rfl) (fun (k : Nat) => [(8, .v (.int .i64 k)), (7, .v (.int .i64 l.length)), (0, .s 0 0 0 l.length c 5), (1, .f (.func g) fs cs)]) (fun k => k ≤ l.length ∧ ∀ j, j < k → p (ix l j) = false) (fun k => l.length - k) 0 ⟨Nat.zero_le _, fun j h => by omega⟩ ?_ ?_
  · refine sxq ?_
    try with_reducible exact trivial
  · rintro k ⟨hk, hn⟩
    refine sxq ?_
    try with_reducible exact trivial
    refine ⟨fun h1 => ?_, fun h1 => ?_⟩
    · repeat (with_reducible refine And.intro (by omega) ?_)
      have hp1 := hp k (by omega)
      refine sp_pu (by simpa only [push_cast] using hp1) ?_
      refine sxq ?_
      try with_reducible exact trivial
      simp only [branch]
      refine ⟨fun h2 => ?_, fun h2 => ?_⟩
      · rw [idxB_at p l 0 k (by omega) hn h2]; simp
      · repeat (with_reducible refine And.intro (by omega) ?_)
        refine lp0_normal (k + 1) ⟨by omega, fun j hj => ?_⟩ (by omega) ?_
        · by_cases e : j = k
          · rw [e]; exact h2
          · exact hn j (by omega)
        · refine sxq ?_
          try with_reducible exact trivial
    · rw [idxB_none p l 0 fun j hj => hn j (by omega)]
/-- A variable that holds a string. -/
def oT (s : ByteArray) : Ob := ⟨9, true, .st [.v (.string s)]⟩
attribute [push_cast] oT
def nmE (s : ByteArray) (b : Ba) : Bool := decide (b.nm = s)
theorem icl_pu (l : List Ba) (cp : Nat → Nat) (k : Nat) (hk : k < l.length) (s : ByteArray) : Pu Tryz.prog 138 [.a (cBa 1 k (cp k) (ix l k)), .p 2 0 0] [rBa 1 l cp, rDs l, oT s] (.v (.bool (nmE s (ix l k)))) := by
  refine pu_of_ex true [] mixed Tryz.call138 Tryz.func138 rfl Tryz.ntmps138 Tryz.results138 (by decide +kernel) rfl rfl rfl ?_
  refine sxq ?_
  try with_reducible exact trivial
  unfold nmE
  try rfl
theorem fcl_pu (l : List Ba) (cp : Nat → Nat) (k : Nat) (hk : k < l.length) (s : ByteArray) : Pu Tryz.prog 226 [.a (cBa 1 k (cp k) (ix l k)), .p 2 0 0] [rBa 1 l cp, rDs l, oT s] (.v (.bool (nmE s (ix l k)))) := by
  refine pu_of_ex true [] mixed Tryz.call226 Tryz.func226 rfl Tryz.ntmps226 Tryz.results226 (by decide +kernel) rfl rfl rfl ?_
  refine sxq ?_
  try with_reducible exact trivial
  unfold nmE
  try rfl
theorem sindex_pu (l : List Ba) (cp : Nat → Nat) (c : Nat) (s : ByteArray) (hl : l.length ≤ 9223372036854775807) : Pu Tryz.prog 101 [.s 0 0 0 l.length c 5, .v (.string s)] [rBa 1 l cp, rDs l] (.v (.int .i64 (idxB (nmE s) l 0))) := by
  refine pu_of_ex true [] mixed Tryz.call101 Tryz.func101 rfl Tryz.ntmps101 Tryz.results101 (by decide +kernel) rfl rfl rfl ?_
  refine sxq ?_
  try with_reducible exact trivial
  refine sp_c (indexBa_pu l cp c 138 [] [.p 2 0 0] [oT s] (nmE s) rfl hl (fun k hk => icl_pu l cp k hk s)) rfl [0, 1, 2] ?_
  refine sxq ?_
  try with_reducible exact trivial
theorem lfind_pu (l : List Ba) (cp : Nat → Nat) (c : Nat) (s : ByteArray) (hl : l.length ≤ 9223372036854775807) : Pu Tryz.prog 215 [.s 0 0 0 l.length c 5, .v (.string s)] [rBa 1 l cp, rDs l] (.v (.int .i64 (idxB (nmE s) l 0))) := by
  refine pu_of_ex true [] mixed Tryz.call215 Tryz.func215 rfl Tryz.ntmps215 Tryz.results215 (by decide +kernel) rfl rfl rfl ?_
  refine sxq ?_
  try with_reducible exact trivial
  refine sp_c (indexBa_pu l cp c 226 [] [.p 2 0 0] [oT s] (nmE s) rfl hl (fun k hk => fcl_pu l cp k hk s)) rfl [0, 1, 2] ?_
  refine sxq ?_
  try with_reducible exact trivial
def atB (l : List Ba) (k : Nat) : Bool := baB (ix l k) && decide (idxB (nmE (ix l k).nm) l 0 = k)
def allB (l : List Ba) : Nat → Bool
  | 0 => true
  | k + 1 => allB l k && atB l k
def schB (l : List Ba) : Bool := decide (l.length ≤ 60) && allB l l.length
theorem allB_no {l : List Ba} {k : Nat} (h : atB l k = false) : ∀ {n : Nat}, k < n → allB l n = false
  | n + 1, hk => by
    rw [allB]
    by_cases e : k = n
    · rw [← e, h, Bool.and_false]
    · rw [allB_no h (by omega), Bool.false_and]
set_option maxHeartbeats 4000000 in
theorem sched_pu (l : List Ba) (cp : Nat → Nat) (c : Nat) (hl : l.length ≤ 9223372036854775807) (hs : ∀ k, k < l.length → (ix l k).nm.size ≤ 9223372036854775807) (hd : ∀ k, k < l.length → (ix l k).ds.length ≤ 9223372036854775806) :
    Pu Tryz.prog 58 [.s 0 0 0 l.length c 5] [rBa 1 l cp, rDs l] (.v (.bool (schB l))) := by
  refine pu_of_ex true [] mixed Tryz.call58 Tryz.func58 rfl Tryz.ntmps58 Tryz.results58 (by decide +kernel) rfl rfl rfl ?_
  refine sxq ?_
  try with_reducible exact trivial
  refine ⟨fun h0 => ?_, fun h0 => ?_⟩
  · unfold schB
    rw [decide_eq_false (show ¬ l.length ≤ 60 by omega)]; rfl
  have e0 : schB l = allB l l.length := by
    unfold schB
    rw [decide_eq_true (show l.length ≤ 60 by omega)]; rfl
  rw [e0]
  refine tr_loop mixed (by kernel_rfl) (fun (k : Nat) => [(10, .v (.int .i64 k)), (9, .v (.int .i64 l.length)), (8, .s 0 0 0 l.length c 5), (0, .s 0 0 0 l.length c 5)]) (fun _ => [rBa 1 l cp, rDs l]) (fun k => k ≤ l.length ∧ allB l k = true) (fun k => l.length - k) 0 ⟨Nat.zero_le _, rfl⟩ (Mt.wk (rl := [0, 1]) ⟨by kernel_rfl, ?_, ?_⟩) ?_
  · refine sxq ?_
    try with_reducible exact trivial
  · refine sxq ?_
    try with_reducible exact trivial
  rintro k ⟨hk, ha⟩
  refine sxq ?_
  try with_reducible exact trivial
  refine ⟨fun h1 => ?_, fun h1 => ?_⟩
  · have hk2 : k < l.length := by omega
    repeat (with_reducible refine And.intro (by omega) ?_)
    refine sp_c (svalid_pu l k (cp k) hk2 (hs k hk2) (hd k hk2)) rfl [1] ?_
    refine sxq ?_
    try with_reducible exact trivial
    cases hb : baB (ix l k) with
    | false =>
      rw [allB_no (k := k) (by unfold atB; rw [hb]; rfl) hk2]
      refine sxq ?_
      try with_reducible exact trivial
    | true =>
    refine sxq ?_
    try with_reducible exact trivial
    refine sp_c (sindex_pu l cp c (ix l k).nm hl) rfl [0, 1] ?_
    refine sxq ?_
    try with_reducible exact trivial
    refine ⟨fun h2 => ?_, fun h2 => ?_⟩
    · have hat : atB l k = true := by unfold atB; rw [hb, decide_eq_true h2]; rfl
      repeat (with_reducible refine And.intro (by omega) ?_)
      refine lpK_normal (k + 1) [0, 1] ⟨by omega, by rw [allB, ha, hat]; rfl⟩ (by omega) (by kernel_rfl) ?_ ?_
      · refine sxq ?_
        try with_reducible exact trivial
      · refine sxq ?_
        try with_reducible exact trivial
    · rw [allB_no (k := k) (by unfold atB; rw [hb, decide_eq_false h2]; rfl) hk2]
  · obtain rfl : k = l.length := by omega
    rw [ha]
end Go.Proofs.YtolioflblegneaaGreat
