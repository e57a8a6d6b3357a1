/- The example's laid bars, one after the other. -/
import Derived.Test.YtolioflblegneaaGreatWL
import Derived.Test.YtolioflblegneaaGreatRF
set_option maxRecDepth 100000
set_option linter.unusedSimpArgs false
set_option linter.unusedVariables false
-- 
namespace Go.Proofs.YtolioflblegneaaGreat
open Go.RowKit
def pP0 : List P3 := [⟨50, 50, 100⟩, ⟨350, 50, 100⟩]
def pP1 : List P3 := [⟨50, 80, 100⟩, ⟨350, 80, 100⟩]
def oRn : Ob := ⟨135, false, .st cRn⟩
def tP (i : Int) (c c2 : Nat) : List Ob := [rBa 1 l0 c0, rDs l0, rRn, ⟨3, false, .st [.v (.int .i64 i)]⟩, ⟨235, false, .st [.v (.slice none 0 0)]⟩, ⟨31, false, .st [.v (.int .i64 0)]⟩, ⟨48, false, .st [.s 0 0 0 1 c 5]⟩, ⟨76, false, .st [.s 2 0 0 1 c2 10]⟩]
def xX0 : List Ob := [oRn, rPts pth, oPts pP0 2]
def rRx : Ob := ⟨135, true, .st cRn⟩
def xX1 : List Ob := [rRx, rPts pth, deadOb, oPts pP1 2]
attribute [push_cast] oRn rRx tP xX0 xX1 List.cons_append List.nil_append
set_option maxHeartbeats 8000000 in
theorem all_it (i : Int) (c c2 : Nat) : IterO Tryz.prog 220 [.p 7 0 0, .p 6 0 0] (tP i c c2) [(xX0, .v (.int .i64 0), .s 10 0 0 2 2 3), (xX1, .v (.int .i64 1), .s 11 0 0 2 2 3)] := by
  intro l tmps fn t u assign body W Z hW1 hW2 hW3 β w us hW hus
  have hI1 := fun d X β w h => (hW1 d X β w h).1
  refine callsIn_of_wp_marks Tryz.func220 rfl trivial ?_
  have hy : OkL β [.f (.yield l) [] [], .p 7 0 0, .p 6 0 0] (Value.func (.yield l) #[] #[] :: us) := by
    simp only [OkL, Ok]
    exact ⟨_, _, rfl, ⟨#[], #[], rfl, rfl, rfl⟩, by simpa only [OkL, Ok] using hus⟩
  have he := entry_slots (nt := 66) hy (by simp)
  have e1 : (Value.func (.yield l) #[] #[] :: us).toArray = #[.func (.yield l) #[] #[]] ++ us.toArray := by simp
  rw [e1] at he
  have s0 : IS W 66 0 [] (parS 0 [.f (.yield l) [] [], .p 7 0 0, .p 6 0 0]) _ w := ⟨⟨β, hW, he.1⟩, he.2, rfl⟩
  have hFin : ∀ a' w', Z w' → a'.defers = [] → bodyPostM Fence.wide 0 Tryz.prog Tryz.f220 (fun e w' => ∃ v, e = Ending.returned v ∧ ((∃ X β', W [(xX0, SV.v (.int .i64 0), SV.s 10 0 0 2 2 3), (xX1, SV.v (.int .i64 1), SV.s 11 0 0 2 2 3)].length X β' w') ∨ Z w')) .ret a' w' := fun a' w' hZ hd => by
    simp only [bodyPostM]
    rw [hd]
    obtain ⟨v, hv⟩ := results_nil (P := Tryz.prog) (fn := Tryz.f220) (tmps := a'.tmps) (w := w') Tryz.results220
    exact ⟨v, hv, _, rfl, .inr hZ⟩
  have hEnd : ∀ X β' a' w', W 2 X β' w' → a'.defers = [] → bodyPostM Fence.wide 0 Tryz.prog Tryz.f220 (fun e w' => ∃ v, e = Ending.returned v ∧ ((∃ X β', W [(xX0, SV.v (.int .i64 0), SV.s 10 0 0 2 2 3), (xX1, SV.v (.int .i64 1), SV.s 11 0 0 2 2 3)].length X β' w') ∨ Z w')) .normal a' w' := fun X β' a' w' hW' hd => by
    simp only [bodyPostM]
    rw [hd]
    obtain ⟨v, hv⟩ := results_nil (P := Tryz.prog) (fn := Tryz.f220) (tmps := a'.tmps) (w := w') Tryz.results220
    exact ⟨v, hv, _, rfl, .inl ⟨X, β', hW'⟩⟩
  refine wpIn_seq (pieceI (Y := Unit) (T := tP i c c2) (N := 8) (fun _ => True) .normal (fun _ => [(4, .v (.int .i64 0)), (0, .f (.yield l) [] []), (1, .p 7 0 0), (2, .p 6 0 0)]) (fun _ => []) (pl := []) mixed (by kernel_rfl) hI1 hW2 s0 rfl rfl (fun _ => by decide) ?_ fun _ a1 w1 _ s1 => ?_)
  · refine sxg ?_
    try with_reducible exact trivial
    exact ⟨(), Mt.wk (rl := [0, 1, 2, 3, 4, 5, 6, 7]) ⟨by kernel_rfl, by ((simp only [push_cast, ↓branch_true, ↓branch_false, Nat.reduceBEq, Nat.reduceAdd, Nat.reduceMul, Nat.reduceSub, Int.reduceToNat, reduceCtorEq, Int.reduceAdd, Int.reduceEq, Int.reduceLE, Int.reduceLT, Nat.reduceLT, Nat.reduceLeDiff, ↓arr30, ↓arr31, ↓arr32, Int.reduceSub, Int.reduceMul, Int.reduceNeg, Int.reduceBEq, Int.reduceBNe, Int.reduceTDiv, decide_true, decide_false, decide_not, Int.max_def, Int.min_def, ↓reduceIte, ne_eq, Bool.not_true, Bool.not_false])), by ((simp only [push_cast, ↓branch_true, ↓branch_false, Nat.reduceBEq, Nat.reduceAdd, Nat.reduceMul, Nat.reduceSub, Int.reduceToNat, reduceCtorEq, Int.reduceAdd, Int.reduceEq, Int.reduceLE, Int.reduceLT, Nat.reduceLT, Nat.reduceLeDiff, ↓arr30, ↓arr31, ↓arr32, Int.reduceSub, Int.reduceMul, Int.reduceNeg, Int.reduceBEq, Int.reduceBNe, Int.reduceTDiv, decide_true, decide_false, decide_not, Int.max_def, Int.min_def, ↓reduceIte, ne_eq, Bool.not_true, Bool.not_false]))⟩⟩
  refine wpIn_seq (pieceI (Y := Unit) (T := tP i c c2) (N := 8) (fun _ => True) .normal (fun _ => [(4, .v (.int .i64 0)), (0, .f (.yield l) [] []), (1, .p 7 0 0), (2, .p 6 0 0), (12, .s 2 0 0 1 c2 10), (13, .v (.int .i64 1)), (14, .v (.int .i64 0))]) (fun _ => []) (pl := []) mixed (by kernel_rfl) hI1 hW2 s1 rfl rfl (fun _ => by decide) ?_ fun _ a2 w2 _ s2 => ?_)
  · refine sxg ?_
    try with_reducible exact trivial
    exact ⟨(), Mt.wk (rl := [0, 1, 2, 3, 4, 5, 6, 7]) ⟨by kernel_rfl, by ((simp only [push_cast, ↓branch_true, ↓branch_false, Nat.reduceBEq, Nat.reduceAdd, Nat.reduceMul, Nat.reduceSub, Int.reduceToNat, reduceCtorEq, Int.reduceAdd, Int.reduceEq, Int.reduceLE, Int.reduceLT, Nat.reduceLT, Nat.reduceLeDiff, ↓arr30, ↓arr31, ↓arr32, Int.reduceSub, Int.reduceMul, Int.reduceNeg, Int.reduceBEq, Int.reduceBNe, Int.reduceTDiv, decide_true, decide_false, decide_not, Int.max_def, Int.min_def, ↓reduceIte, ne_eq, Bool.not_true, Bool.not_false])), by ((simp only [push_cast, ↓branch_true, ↓branch_false, Nat.reduceBEq, Nat.reduceAdd, Nat.reduceMul, Nat.reduceSub, Int.reduceToNat, reduceCtorEq, Int.reduceAdd, Int.reduceEq, Int.reduceLE, Int.reduceLT, Nat.reduceLT, Nat.reduceLeDiff, ↓arr30, ↓arr31, ↓arr32, Int.reduceSub, Int.reduceMul, Int.reduceNeg, Int.reduceBEq, Int.reduceBNe, Int.reduceTDiv, decide_true, decide_false, decide_not, Int.max_def, Int.min_def, ↓reduceIte, ne_eq, Bool.not_true, Bool.not_false]))⟩⟩
  refine wpIn_block (wpIn_un (loopIn_un ?_))
  refine wpIn_seq (pieceI (Y := Unit) (T := tP i c c2) (N := 8) (fun _ => True) .normal (fun _ => [(4, .v (.int .i64 0)), (0, .f (.yield l) [] []), (1, .p 7 0 0), (2, .p 6 0 0), (12, .s 2 0 0 1 c2 10), (13, .v (.int .i64 1)), (14, .v (.int .i64 0)), (15, .v (.bool true))]) (fun _ => []) (pl := []) mixed (by kernel_rfl) hI1 hW2 s2 rfl rfl (fun _ => by decide) ?_ fun _ a3 w3 _ s3 => ?_)
  · refine sxg ?_
    try with_reducible exact trivial
    exact ⟨(), Mt.wk (rl := [0, 1, 2, 3, 4, 5, 6, 7]) ⟨by kernel_rfl, by ((simp only [push_cast, ↓branch_true, ↓branch_false, Nat.reduceBEq, Nat.reduceAdd, Nat.reduceMul, Nat.reduceSub, Int.reduceToNat, reduceCtorEq, Int.reduceAdd, Int.reduceEq, Int.reduceLE, Int.reduceLT, Nat.reduceLT, Nat.reduceLeDiff, ↓arr30, ↓arr31, ↓arr32, Int.reduceSub, Int.reduceMul, Int.reduceNeg, Int.reduceBEq, Int.reduceBNe, Int.reduceTDiv, decide_true, decide_false, decide_not, Int.max_def, Int.min_def, ↓reduceIte, ne_eq, Bool.not_true, Bool.not_false])), by ((simp only [push_cast, ↓branch_true, ↓branch_false, Nat.reduceBEq, Nat.reduceAdd, Nat.reduceMul, Nat.reduceSub, Int.reduceToNat, reduceCtorEq, Int.reduceAdd, Int.reduceEq, Int.reduceLE, Int.reduceLT, Nat.reduceLT, Nat.reduceLeDiff, ↓arr30, ↓arr31, ↓arr32, Int.reduceSub, Int.reduceMul, Int.reduceNeg, Int.reduceBEq, Int.reduceBNe, Int.reduceTDiv, decide_true, decide_false, decide_not, Int.max_def, Int.min_def, ↓reduceIte, ne_eq, Bool.not_true, Bool.not_false]))⟩⟩
  refine wpIn_seq (pieceI (Y := Unit) (T := tP i c c2) (N := 8) (fun _ => True) .normal (fun _ => [(4, .v (.int .i64 0)), (0, .f (.yield l) [] []), (1, .p 7 0 0), (2, .p 6 0 0), (12, .s 2 0 0 1 c2 10), (13, .v (.int .i64 1)), (14, .v (.int .i64 0)), (15, .v (.bool true))]) (fun _ => []) (pl := []) mixed (by kernel_rfl) hI1 hW2 s3 rfl rfl (fun _ => by decide) ?_ fun _ a4 w4 _ s4 => ?_)
  · refine sxg ?_
    try with_reducible exact trivial
    exact ⟨(), Mt.wk (rl := [0, 1, 2, 3, 4, 5, 6, 7]) ⟨by kernel_rfl, by ((simp only [push_cast, ↓branch_true, ↓branch_false, Nat.reduceBEq, Nat.reduceAdd, Nat.reduceMul, Nat.reduceSub, Int.reduceToNat, reduceCtorEq, Int.reduceAdd, Int.reduceEq, Int.reduceLE, Int.reduceLT, Nat.reduceLT, Nat.reduceLeDiff, ↓arr30, ↓arr31, ↓arr32, Int.reduceSub, Int.reduceMul, Int.reduceNeg, Int.reduceBEq, Int.reduceBNe, Int.reduceTDiv, decide_true, decide_false, decide_not, Int.max_def, Int.min_def, ↓reduceIte, ne_eq, Bool.not_true, Bool.not_false])), by ((simp only [push_cast, ↓branch_true, ↓branch_false, Nat.reduceBEq, Nat.reduceAdd, Nat.reduceMul, Nat.reduceSub, Int.reduceToNat, reduceCtorEq, Int.reduceAdd, Int.reduceEq, Int.reduceLE, Int.reduceLT, Nat.reduceLT, Nat.reduceLeDiff, ↓arr30, ↓arr31, ↓arr32, Int.reduceSub, Int.reduceMul, Int.reduceNeg, Int.reduceBEq, Int.reduceBNe, Int.reduceTDiv, decide_true, decide_false, decide_not, Int.max_def, Int.min_def, ↓reduceIte, ne_eq, Bool.not_true, Bool.not_false]))⟩⟩
  refine wpIn_seq (wpIn_block ?_)
  refine wpIn_seq (pieceI (Y := Unit) (T := tP i c c2) (N := 8) (fun _ => True) .normal (fun _ => [(4, .v (.int .i64 0)), (0, .f (.yield l) [] []), (1, .p 7 0 0), (2, .p 6 0 0), (12, .s 2 0 0 1 c2 10), (13, .v (.int .i64 1)), (14, .v (.int .i64 0)), (15, .v (.bool true)), (6, .p 8 0 0)]) (fun _ => [oRn]) (pl := []) mixed (by kernel_rfl) hI1 hW2 s4 rfl rfl (fun _ => by decide) ?_ fun _ a5 w5 _ s5 => ?_)
  · refine sxg ?_
    try with_reducible exact trivial
    exact ⟨(), Mt.wk (rl := [0, 1, 2, 3, 4, 5, 6, 7, 8]) ⟨by kernel_rfl, by ((simp only [push_cast, ↓branch_true, ↓branch_false, Nat.reduceBEq, Nat.reduceAdd, Nat.reduceMul, Nat.reduceSub, Int.reduceToNat, reduceCtorEq, Int.reduceAdd, Int.reduceEq, Int.reduceLE, Int.reduceLT, Nat.reduceLT, Nat.reduceLeDiff, ↓arr30, ↓arr31, ↓arr32, Int.reduceSub, Int.reduceMul, Int.reduceNeg, Int.reduceBEq, Int.reduceBNe, Int.reduceTDiv, decide_true, decide_false, decide_not, Int.max_def, Int.min_def, ↓reduceIte, ne_eq, Bool.not_true, Bool.not_false])), by ((simp only [push_cast, ↓branch_true, ↓branch_false, Nat.reduceBEq, Nat.reduceAdd, Nat.reduceMul, Nat.reduceSub, Int.reduceToNat, reduceCtorEq, Int.reduceAdd, Int.reduceEq, Int.reduceLE, Int.reduceLT, Nat.reduceLT, Nat.reduceLeDiff, ↓arr30, ↓arr31, ↓arr32, Int.reduceSub, Int.reduceMul, Int.reduceNeg, Int.reduceBEq, Int.reduceBNe, Int.reduceTDiv, decide_true, decide_false, decide_not, Int.max_def, Int.min_def, ↓reduceIte, ne_eq, Bool.not_true, Bool.not_false]))⟩⟩
  refine wpIn_seq (pieceI (Y := Nat) (T := tP i c c2) (N := 9) (fun cp => 2 ≤ cp) .normal (fun cp => [(4, .v (.int .i64 0)), (0, .f (.yield l) [] []), (1, .p 7 0 0), (2, .p 6 0 0), (12, .s 2 0 0 1 c2 10), (13, .v (.int .i64 1)), (14, .v (.int .i64 0)), (15, .v (.bool true)), (6, .p 8 0 0), (7, .s 9 0 0 2 cp 3)]) (fun cp => [oRn, rPts pth]) (pl := []) mixed (by kernel_rfl) hI1 hW2 s5 rfl rfl (fun _ => by decide) ?_ fun cp a6 w6 hcp s6 => ?_)
  · refine sxg ?_
    try with_reducible exact trivial
    refine sp_at (turned_sp c) [0, 1] (by kernel_rfl) ?_ ?_ ?_
    · refine sxg ?_
      try with_reducible exact trivial
    · refine sxg ?_
      try with_reducible exact trivial
    rintro _ _ ⟨cap, hcap, rfl, rfl⟩
    refine sxg ?_
    try with_reducible exact trivial
    refine ⟨cap, hcap, Mt.wk (rl := [0, 1, 2, 3, 4, 5, 6, 7, 8, 9]) ⟨by kernel_rfl, ?_, ?_⟩⟩
    · refine sxg ?_
      try with_reducible exact trivial
    · refine sxg ?_
      try with_reducible exact trivial
  refine wpIn_seq (pieceI (Y := Unit) (T := tP i c c2) (N := 10) (fun _ => True) .normal (fun _ => [(4, .v (.int .i64 0)), (0, .f (.yield l) [] []), (1, .p 7 0 0), (2, .p 6 0 0), (12, .s 2 0 0 1 c2 10), (13, .v (.int .i64 1)), (14, .v (.int .i64 0)), (15, .v (.bool true)), (6, .p 8 0 0), (7, .s 9 0 0 2 cp 3), (22, .v (.int .i64 2)), (23, .v (.int .i64 0))]) (fun _ => [oRn, rPts pth]) (pl := []) mixed (by kernel_rfl) hI1 hW2 s6 rfl rfl (fun _ => by decide) ?_ fun _ a7 w7 _ s7 => ?_)
  · refine sxg ?_
    try with_reducible exact trivial
    exact ⟨(), Mt.wk (rl := [0, 1, 2, 3, 4, 5, 6, 7, 8, 9]) ⟨by kernel_rfl, by ((simp only [push_cast, ↓branch_true, ↓branch_false, Nat.reduceBEq, Nat.reduceAdd, Nat.reduceMul, Nat.reduceSub, Int.reduceToNat, reduceCtorEq, Int.reduceAdd, Int.reduceEq, Int.reduceLE, Int.reduceLT, Nat.reduceLT, Nat.reduceLeDiff, ↓arr30, ↓arr31, ↓arr32, Int.reduceSub, Int.reduceMul, Int.reduceNeg, Int.reduceBEq, Int.reduceBNe, Int.reduceTDiv, decide_true, decide_false, decide_not, Int.max_def, Int.min_def, ↓reduceIte, ne_eq, Bool.not_true, Bool.not_false])), by ((simp only [push_cast, ↓branch_true, ↓branch_false, Nat.reduceBEq, Nat.reduceAdd, Nat.reduceMul, Nat.reduceSub, Int.reduceToNat, reduceCtorEq, Int.reduceAdd, Int.reduceEq, Int.reduceLE, Int.reduceLT, Nat.reduceLT, Nat.reduceLeDiff, ↓arr30, ↓arr31, ↓arr32, Int.reduceSub, Int.reduceMul, Int.reduceNeg, Int.reduceBEq, Int.reduceBNe, Int.reduceTDiv, decide_true, decide_false, decide_not, Int.max_def, Int.min_def, ↓reduceIte, ne_eq, Bool.not_true, Bool.not_false]))⟩⟩
  refine wpIn_block (wpIn_un (loopIn_un ?_))
  refine wpIn_seq (pieceI (Y := Unit) (T := tP i c c2) (N := 10) (fun _ => True) .normal (fun _ => [(4, .v (.int .i64 0)), (0, .f (.yield l) [] []), (1, .p 7 0 0), (2, .p 6 0 0), (12, .s 2 0 0 1 c2 10), (13, .v (.int .i64 1)), (14, .v (.int .i64 0)), (15, .v (.bool true)), (6, .p 8 0 0), (7, .s 9 0 0 2 cp 3), (22, .v (.int .i64 2)), (23, .v (.int .i64 0)), (24, .v (.bool true))]) (fun _ => [oRn, rPts pth]) (pl := []) mixed (by kernel_rfl) hI1 hW2 s7 rfl rfl (fun _ => by decide) ?_ fun _ a8 w8 _ s8 => ?_)
  · refine sxg ?_
    try with_reducible exact trivial
    exact ⟨(), Mt.wk (rl := [0, 1, 2, 3, 4, 5, 6, 7, 8, 9]) ⟨by kernel_rfl, by ((simp only [push_cast, ↓branch_true, ↓branch_false, Nat.reduceBEq, Nat.reduceAdd, Nat.reduceMul, Nat.reduceSub, Int.reduceToNat, reduceCtorEq, Int.reduceAdd, Int.reduceEq, Int.reduceLE, Int.reduceLT, Nat.reduceLT, Nat.reduceLeDiff, ↓arr30, ↓arr31, ↓arr32, Int.reduceSub, Int.reduceMul, Int.reduceNeg, Int.reduceBEq, Int.reduceBNe, Int.reduceTDiv, decide_true, decide_false, decide_not, Int.max_def, Int.min_def, ↓reduceIte, ne_eq, Bool.not_true, Bool.not_false])), by ((simp only [push_cast, ↓branch_true, ↓branch_false, Nat.reduceBEq, Nat.reduceAdd, Nat.reduceMul, Nat.reduceSub, Int.reduceToNat, reduceCtorEq, Int.reduceAdd, Int.reduceEq, Int.reduceLE, Int.reduceLT, Nat.reduceLT, Nat.reduceLeDiff, ↓arr30, ↓arr31, ↓arr32, Int.reduceSub, Int.reduceMul, Int.reduceNeg, Int.reduceBEq, Int.reduceBNe, Int.reduceTDiv, decide_true, decide_false, decide_not, Int.max_def, Int.min_def, ↓reduceIte, ne_eq, Bool.not_true, Bool.not_false]))⟩⟩
  refine wpIn_seq (pieceI (Y := Unit) (T := tP i c c2) (N := 10) (fun _ => True) .normal (fun _ => [(4, .v (.int .i64 0)), (0, .f (.yield l) [] []), (1, .p 7 0 0), (2, .p 6 0 0), (12, .s 2 0 0 1 c2 10), (13, .v (.int .i64 1)), (14, .v (.int .i64 0)), (15, .v (.bool true)), (6, .p 8 0 0), (7, .s 9 0 0 2 cp 3), (22, .v (.int .i64 2)), (23, .v (.int .i64 0)), (24, .v (.bool true))]) (fun _ => [oRn, rPts pth]) (pl := []) mixed (by kernel_rfl) hI1 hW2 s8 rfl rfl (fun _ => by decide) ?_ fun _ a9 w9 _ s9 => ?_)
  · refine sxg ?_
    try with_reducible exact trivial
    exact ⟨(), Mt.wk (rl := [0, 1, 2, 3, 4, 5, 6, 7, 8, 9]) ⟨by kernel_rfl, by ((simp only [push_cast, ↓branch_true, ↓branch_false, Nat.reduceBEq, Nat.reduceAdd, Nat.reduceMul, Nat.reduceSub, Int.reduceToNat, reduceCtorEq, Int.reduceAdd, Int.reduceEq, Int.reduceLE, Int.reduceLT, Nat.reduceLT, Nat.reduceLeDiff, ↓arr30, ↓arr31, ↓arr32, Int.reduceSub, Int.reduceMul, Int.reduceNeg, Int.reduceBEq, Int.reduceBNe, Int.reduceTDiv, decide_true, decide_false, decide_not, Int.max_def, Int.min_def, ↓reduceIte, ne_eq, Bool.not_true, Bool.not_false])), by ((simp only [push_cast, ↓branch_true, ↓branch_false, Nat.reduceBEq, Nat.reduceAdd, Nat.reduceMul, Nat.reduceSub, Int.reduceToNat, reduceCtorEq, Int.reduceAdd, Int.reduceEq, Int.reduceLE, Int.reduceLT, Nat.reduceLT, Nat.reduceLeDiff, ↓arr30, ↓arr31, ↓arr32, Int.reduceSub, Int.reduceMul, Int.reduceNeg, Int.reduceBEq, Int.reduceBNe, Int.reduceTDiv, decide_true, decide_false, decide_not, Int.max_def, Int.min_def, ↓reduceIte, ne_eq, Bool.not_true, Bool.not_false]))⟩⟩
  refine wpIn_seq (wpIn_block ?_)
  refine wpIn_seq (pieceI (Y := Unit) (T := tP i c c2) (N := 10) (fun _ => True) .normal (fun _ => [(4, .v (.int .i64 0)), (0, .f (.yield l) [] []), (1, .p 7 0 0), (2, .p 6 0 0), (12, .s 2 0 0 1 c2 10), (13, .v (.int .i64 1)), (14, .v (.int .i64 0)), (15, .v (.bool true)), (6, .p 8 0 0), (7, .s 9 0 0 2 cp 3), (22, .v (.int .i64 2)), (23, .v (.int .i64 0)), (24, .v (.bool true)), (8, .v (.int .i64 0))]) (fun _ => [oRn, rPts pth]) (pl := []) mixed (by kernel_rfl) hI1 hW2 s9 rfl rfl (fun _ => by decide) ?_ fun _ a10 w10 _ s10 => ?_)
  · refine sxg ?_
    try with_reducible exact trivial
    exact ⟨(), Mt.wk (rl := [0, 1, 2, 3, 4, 5, 6, 7, 8, 9]) ⟨by kernel_rfl, by ((simp only [push_cast, ↓branch_true, ↓branch_false, Nat.reduceBEq, Nat.reduceAdd, Nat.reduceMul, Nat.reduceSub, Int.reduceToNat, reduceCtorEq, Int.reduceAdd, Int.reduceEq, Int.reduceLE, Int.reduceLT, Nat.reduceLT, Nat.reduceLeDiff, ↓arr30, ↓arr31, ↓arr32, Int.reduceSub, Int.reduceMul, Int.reduceNeg, Int.reduceBEq, Int.reduceBNe, Int.reduceTDiv, decide_true, decide_false, decide_not, Int.max_def, Int.min_def, ↓reduceIte, ne_eq, Bool.not_true, Bool.not_false])), by ((simp only [push_cast, ↓branch_true, ↓branch_false, Nat.reduceBEq, Nat.reduceAdd, Nat.reduceMul, Nat.reduceSub, Int.reduceToNat, reduceCtorEq, Int.reduceAdd, Int.reduceEq, Int.reduceLE, Int.reduceLT, Nat.reduceLT, Nat.reduceLeDiff, ↓arr30, ↓arr31, ↓arr32, Int.reduceSub, Int.reduceMul, Int.reduceNeg, Int.reduceBEq, Int.reduceBNe, Int.reduceTDiv, decide_true, decide_false, decide_not, Int.max_def, Int.min_def, ↓reduceIte, ne_eq, Bool.not_true, Bool.not_false]))⟩⟩
  refine wpIn_seq (pieceI (Y := Unit) (T := tP i c c2) (N := 10) (fun _ => True) .normal (fun _ => [(4, .v (.int .i64 0)), (0, .f (.yield l) [] []), (1, .p 7 0 0), (2, .p 6 0 0), (12, .s 2 0 0 1 c2 10), (13, .v (.int .i64 1)), (14, .v (.int .i64 0)), (15, .v (.bool true)), (6, .p 8 0 0), (7, .s 9 0 0 2 cp 3), (22, .v (.int .i64 2)), (23, .v (.int .i64 0)), (24, .v (.bool true)), (8, .v (.int .i64 0)), (9, .s 10 0 0 2 2 3)]) (fun _ => [oRn, rPts pth, oPts [⟨0, 0, 0⟩, ⟨0, 0, 0⟩] 2]) (pl := []) mixed (by kernel_rfl) hI1 hW2 s10 rfl rfl (fun _ => by decide) ?_ fun _ a11 w11 _ s11 => ?_)
  · refine sxg ?_
    try with_reducible exact trivial
    refine ⟨(), Mt.wk (rl := [0, 1, 2, 3, 4, 5, 6, 7, 8, 9, 10]) ⟨by kernel_rfl, ?_, ?_⟩⟩
    · refine sxg ?_
      try with_reducible exact trivial
    · refine sxg ?_
      try with_reducible exact trivial
      intro _ _ k hk
      rcases k with _ | _ | k
      · exact ⟨rfl, rfl, rfl⟩
      · exact ⟨rfl, rfl, rfl⟩
      · omega
  refine wpIn_seq (pieceI (Y := Unit) (T := tP i c c2) (N := 11) (fun _ => True) .normal (fun _ => [(4, .v (.int .i64 0)), (0, .f (.yield l) [] []), (1, .p 7 0 0), (2, .p 6 0 0), (12, .s 2 0 0 1 c2 10), (13, .v (.int .i64 1)), (14, .v (.int .i64 0)), (15, .v (.bool true)), (6, .p 8 0 0), (7, .s 9 0 0 2 cp 3), (22, .v (.int .i64 2)), (23, .v (.int .i64 0)), (24, .v (.bool true)), (8, .v (.int .i64 0)), (9, .s 10 0 0 2 2 3)]) (fun _ => xX0) (pl := []) mixed (by kernel_rfl) hI1 hW2 s11 rfl rfl (fun _ => by decide) ?_ fun _ a12 w12 _ s12 => ?_)
  · refine sxg ?_
    try with_reducible exact trivial
    refine tr_un mixed (by kernel_rfl) ?_
    refine sxg ?_
    try with_reducible exact trivial
    refine sp_c (plus_pu ⟨0, 0, 0⟩ ⟨50, 50, 100⟩ (by decide) (by decide)) rfl [] ?_
    refine sxg ?_
    try with_reducible exact trivial
    refine tl_un mixed (by kernel_rfl) ?_
    refine sxg ?_
    try with_reducible exact trivial
    refine sp_c (plus_pu ⟨300, 0, 0⟩ ⟨50, 50, 100⟩ (by decide) (by decide)) rfl [] ?_
    refine sxg ?_
    try with_reducible exact trivial
    refine tl_un mixed (by kernel_rfl) ?_
    refine sxg ?_
    try with_reducible exact trivial
    refine ⟨(), Mt.wk (rl := [0, 1, 2, 3, 4, 5, 6, 7, 8, 9, 10]) ⟨by kernel_rfl, ?_, ?_⟩⟩
    · refine sxg ?_
      try with_reducible exact trivial
    · refine sxg ?_
      try with_reducible exact trivial
      intro q hq
      obtain rfl : q = 0 := by omega
      refine ⟨by decide, fun k hk => ?_⟩
      have hk : k < 2 := hk
      rcases k with _ | _ | k
      · exact ⟨rfl, rfl, rfl, trivial⟩
      · exact ⟨rfl, rfl, rfl, trivial⟩
      · omega
  refine wpIn_seq (wpIn_seq (yieldI (nt := 66) (d := 0) (T := tP i c c2) (s0 := 0) (s1 := 4) (r1 := 9) (d0 := 57) (d1 := 58) (e1 := 59) (d2 := 60) (d3 := 61) hW1 hW3 s12 rfl rfl rfl rfl (by kernel_rfl) (by decide) (by decide) (by decide) (by decide) (by decide) (by decide) (by decide) (by decide) (by decide) (by decide) (by decide) (fun a13 w13 s13 => ?_) (fun a13 w13 hZ hd hz ht => by refine wpIn_cond_true (c := .tmp 61) ht (wpIn_ret ?_); exact hFin a13 w13 hZ hd) _ rfl rfl rfl rfl rfl rfl))
  refine pieceI (Y := Unit) (T := tP i c c2) (N := 11) (fun _ => True) .normal (fun _ => [(4, .v (.int .i64 0)), (0, .f (.yield l) [] []), (1, .p 7 0 0), (2, .p 6 0 0), (12, .s 2 0 0 1 c2 10), (13, .v (.int .i64 1)), (14, .v (.int .i64 0)), (15, .v (.bool true)), (6, .p 8 0 0), (7, .s 9 0 0 2 cp 3), (22, .v (.int .i64 2)), (23, .v (.int .i64 0)), (24, .v (.bool true)), (8, .v (.int .i64 0)), (9, .s 10 0 0 2 2 3), (61, .v (.bool false))]) (fun _ => xX0) (pl := []) mixed (by kernel_rfl) hI1 hW2 s13 rfl rfl (fun _ => by decide) ?_ fun _ a14 w14 _ s14 => ?_
  · refine sxg ?_
    try with_reducible exact trivial
    exact ⟨(), Mt.wk (rl := [0, 1, 2, 3, 4, 5, 6, 7, 8, 9, 10]) ⟨by kernel_rfl, by ((simp only [push_cast, ↓branch_true, ↓branch_false, Nat.reduceBEq, Nat.reduceAdd, Nat.reduceMul, Nat.reduceSub, Int.reduceToNat, reduceCtorEq, Int.reduceAdd, Int.reduceEq, Int.reduceLE, Int.reduceLT, Nat.reduceLT, Nat.reduceLeDiff, ↓arr30, ↓arr31, ↓arr32, Int.reduceSub, Int.reduceMul, Int.reduceNeg, Int.reduceBEq, Int.reduceBNe, Int.reduceTDiv, decide_true, decide_false, decide_not, Int.max_def, Int.min_def, ↓reduceIte, ne_eq, Bool.not_true, Bool.not_false])), by ((simp only [push_cast, ↓branch_true, ↓branch_false, Nat.reduceBEq, Nat.reduceAdd, Nat.reduceMul, Nat.reduceSub, Int.reduceToNat, reduceCtorEq, Int.reduceAdd, Int.reduceEq, Int.reduceLE, Int.reduceLT, Nat.reduceLT, Nat.reduceLeDiff, ↓arr30, ↓arr31, ↓arr32, Int.reduceSub, Int.reduceMul, Int.reduceNeg, Int.reduceBEq, Int.reduceBNe, Int.reduceTDiv, decide_true, decide_false, decide_not, Int.max_def, Int.min_def, ↓reduceIte, ne_eq, Bool.not_true, Bool.not_false]))⟩⟩
  refine pieceI (Y := Unit) (T := tP i c c2) (N := 11) (fun _ => True) .normal (fun _ => [(4, .v (.int .i64 1)), (0, .f (.yield l) [] []), (1, .p 7 0 0), (2, .p 6 0 0), (12, .s 2 0 0 1 c2 10), (13, .v (.int .i64 1)), (14, .v (.int .i64 0)), (15, .v (.bool true)), (6, .p 8 0 0), (7, .s 9 0 0 2 cp 3), (22, .v (.int .i64 2)), (23, .v (.int .i64 0)), (24, .v (.bool true)), (8, .v (.int .i64 0)), (9, .s 10 0 0 2 2 3)]) (fun _ => xX0) (pl := []) mixed (by kernel_rfl) hI1 hW2 s14 rfl rfl (fun _ => by decide) ?_ fun _ a15 w15 _ s15 => ?_
  · refine sxg ?_
    try with_reducible exact trivial
    exact ⟨(), Mt.wk (rl := [0, 1, 2, 3, 4, 5, 6, 7, 8, 9, 10]) ⟨by kernel_rfl, by ((simp only [push_cast, ↓branch_true, ↓branch_false, Nat.reduceBEq, Nat.reduceAdd, Nat.reduceMul, Nat.reduceSub, Int.reduceToNat, reduceCtorEq, Int.reduceAdd, Int.reduceEq, Int.reduceLE, Int.reduceLT, Nat.reduceLT, Nat.reduceLeDiff, ↓arr30, ↓arr31, ↓arr32, Int.reduceSub, Int.reduceMul, Int.reduceNeg, Int.reduceBEq, Int.reduceBNe, Int.reduceTDiv, decide_true, decide_false, decide_not, Int.max_def, Int.min_def, ↓reduceIte, ne_eq, Bool.not_true, Bool.not_false])), by ((simp only [push_cast, ↓branch_true, ↓branch_false, Nat.reduceBEq, Nat.reduceAdd, Nat.reduceMul, Nat.reduceSub, Int.reduceToNat, reduceCtorEq, Int.reduceAdd, Int.reduceEq, Int.reduceLE, Int.reduceLT, Nat.reduceLT, Nat.reduceLeDiff, ↓arr30, ↓arr31, ↓arr32, Int.reduceSub, Int.reduceMul, Int.reduceNeg, Int.reduceBEq, Int.reduceBNe, Int.reduceTDiv, decide_true, decide_false, decide_not, Int.max_def, Int.min_def, ↓reduceIte, ne_eq, Bool.not_true, Bool.not_false]))⟩⟩
  refine pieceI (Y := Unit) (T := tP i c c2) (N := 11) (fun _ => True) .normal (fun _ => [(4, .v (.int .i64 1)), (0, .f (.yield l) [] []), (1, .p 7 0 0), (2, .p 6 0 0), (12, .s 2 0 0 1 c2 10), (13, .v (.int .i64 1)), (14, .v (.int .i64 0)), (15, .v (.bool true)), (6, .p 8 0 0), (7, .s 9 0 0 2 cp 3), (22, .v (.int .i64 2)), (23, .v (.int .i64 1)), (24, .v (.bool true)), (8, .v (.int .i64 0)), (9, .s 10 0 0 2 2 3)]) (fun _ => xX0) (pl := []) mixed (by kernel_rfl) hI1 hW2 s15 rfl rfl (fun _ => by decide) ?_ fun _ a16 w16 _ s16 => ?_
  · refine sxg ?_
    try with_reducible exact trivial
    exact ⟨(), Mt.wk (rl := [0, 1, 2, 3, 4, 5, 6, 7, 8, 9, 10]) ⟨by kernel_rfl, by ((simp only [push_cast, ↓branch_true, ↓branch_false, Nat.reduceBEq, Nat.reduceAdd, Nat.reduceMul, Nat.reduceSub, Int.reduceToNat, reduceCtorEq, Int.reduceAdd, Int.reduceEq, Int.reduceLE, Int.reduceLT, Nat.reduceLT, Nat.reduceLeDiff, ↓arr30, ↓arr31, ↓arr32, Int.reduceSub, Int.reduceMul, Int.reduceNeg, Int.reduceBEq, Int.reduceBNe, Int.reduceTDiv, decide_true, decide_false, decide_not, Int.max_def, Int.min_def, ↓reduceIte, ne_eq, Bool.not_true, Bool.not_false])), by ((simp only [push_cast, ↓branch_true, ↓branch_false, Nat.reduceBEq, Nat.reduceAdd, Nat.reduceMul, Nat.reduceSub, Int.reduceToNat, reduceCtorEq, Int.reduceAdd, Int.reduceEq, Int.reduceLE, Int.reduceLT, Nat.reduceLT, Nat.reduceLeDiff, ↓arr30, ↓arr31, ↓arr32, Int.reduceSub, Int.reduceMul, Int.reduceNeg, Int.reduceBEq, Int.reduceBNe, Int.reduceTDiv, decide_true, decide_false, decide_not, Int.max_def, Int.min_def, ↓reduceIte, ne_eq, Bool.not_true, Bool.not_false]))⟩⟩
  refine loopIn_un ?_
  refine wpIn_seq (pieceI (Y := Unit) (T := tP i c c2) (N := 11) (fun _ => True) .normal (fun _ => [(4, .v (.int .i64 1)), (0, .f (.yield l) [] []), (1, .p 7 0 0), (2, .p 6 0 0), (12, .s 2 0 0 1 c2 10), (13, .v (.int .i64 1)), (14, .v (.int .i64 0)), (15, .v (.bool true)), (6, .p 8 0 0), (7, .s 9 0 0 2 cp 3), (22, .v (.int .i64 2)), (23, .v (.int .i64 1)), (24, .v (.bool true)), (8, .v (.int .i64 0)), (9, .s 10 0 0 2 2 3)]) (fun _ => xX0) (pl := []) mixed (by kernel_rfl) hI1 hW2 s16 rfl rfl (fun _ => by decide) ?_ fun _ a17 w17 _ s17 => ?_)
  · refine sxg ?_
    try with_reducible exact trivial
    exact ⟨(), Mt.wk (rl := [0, 1, 2, 3, 4, 5, 6, 7, 8, 9, 10]) ⟨by kernel_rfl, by ((simp only [push_cast, ↓branch_true, ↓branch_false, Nat.reduceBEq, Nat.reduceAdd, Nat.reduceMul, Nat.reduceSub, Int.reduceToNat, reduceCtorEq, Int.reduceAdd, Int.reduceEq, Int.reduceLE, Int.reduceLT, Nat.reduceLT, Nat.reduceLeDiff, ↓arr30, ↓arr31, ↓arr32, Int.reduceSub, Int.reduceMul, Int.reduceNeg, Int.reduceBEq, Int.reduceBNe, Int.reduceTDiv, decide_true, decide_false, decide_not, Int.max_def, Int.min_def, ↓reduceIte, ne_eq, Bool.not_true, Bool.not_false])), by ((simp only [push_cast, ↓branch_true, ↓branch_false, Nat.reduceBEq, Nat.reduceAdd, Nat.reduceMul, Nat.reduceSub, Int.reduceToNat, reduceCtorEq, Int.reduceAdd, Int.reduceEq, Int.reduceLE, Int.reduceLT, Nat.reduceLT, Nat.reduceLeDiff, ↓arr30, ↓arr31, ↓arr32, Int.reduceSub, Int.reduceMul, Int.reduceNeg, Int.reduceBEq, Int.reduceBNe, Int.reduceTDiv, decide_true, decide_false, decide_not, Int.max_def, Int.min_def, ↓reduceIte, ne_eq, Bool.not_true, Bool.not_false]))⟩⟩
  refine wpIn_seq (pieceI (Y := Unit) (T := tP i c c2) (N := 11) (fun _ => True) .normal (fun _ => [(4, .v (.int .i64 1)), (0, .f (.yield l) [] []), (1, .p 7 0 0), (2, .p 6 0 0), (12, .s 2 0 0 1 c2 10), (13, .v (.int .i64 1)), (14, .v (.int .i64 0)), (15, .v (.bool true)), (6, .p 8 0 0), (7, .s 9 0 0 2 cp 3), (22, .v (.int .i64 2)), (23, .v (.int .i64 1)), (24, .v (.bool true)), (8, .v (.int .i64 0)), (9, .s 10 0 0 2 2 3)]) (fun _ => xX0) (pl := []) mixed (by kernel_rfl) hI1 hW2 s17 rfl rfl (fun _ => by decide) ?_ fun _ a18 w18 _ s18 => ?_)
  · refine sxg ?_
    try with_reducible exact trivial
    exact ⟨(), Mt.wk (rl := [0, 1, 2, 3, 4, 5, 6, 7, 8, 9, 10]) ⟨by kernel_rfl, by ((simp only [push_cast, ↓branch_true, ↓branch_false, Nat.reduceBEq, Nat.reduceAdd, Nat.reduceMul, Nat.reduceSub, Int.reduceToNat, reduceCtorEq, Int.reduceAdd, Int.reduceEq, Int.reduceLE, Int.reduceLT, Nat.reduceLT, Nat.reduceLeDiff, ↓arr30, ↓arr31, ↓arr32, Int.reduceSub, Int.reduceMul, Int.reduceNeg, Int.reduceBEq, Int.reduceBNe, Int.reduceTDiv, decide_true, decide_false, decide_not, Int.max_def, Int.min_def, ↓reduceIte, ne_eq, Bool.not_true, Bool.not_false])), by ((simp only [push_cast, ↓branch_true, ↓branch_false, Nat.reduceBEq, Nat.reduceAdd, Nat.reduceMul, Nat.reduceSub, Int.reduceToNat, reduceCtorEq, Int.reduceAdd, Int.reduceEq, Int.reduceLE, Int.reduceLT, Nat.reduceLT, Nat.reduceLeDiff, ↓arr30, ↓arr31, ↓arr32, Int.reduceSub, Int.reduceMul, Int.reduceNeg, Int.reduceBEq, Int.reduceBNe, Int.reduceTDiv, decide_true, decide_false, decide_not, Int.max_def, Int.min_def, ↓reduceIte, ne_eq, Bool.not_true, Bool.not_false]))⟩⟩
  refine wpIn_seq (wpIn_block ?_)
  refine wpIn_seq (pieceI (Y := Unit) (T := tP i c c2) (N := 11) (fun _ => True) .normal (fun _ => [(4, .v (.int .i64 1)), (0, .f (.yield l) [] []), (1, .p 7 0 0), (2, .p 6 0 0), (12, .s 2 0 0 1 c2 10), (13, .v (.int .i64 1)), (14, .v (.int .i64 0)), (15, .v (.bool true)), (6, .p 8 0 0), (7, .s 9 0 0 2 cp 3), (22, .v (.int .i64 2)), (23, .v (.int .i64 1)), (24, .v (.bool true)), (8, .v (.int .i64 1)), (9, .s 10 0 0 2 2 3)]) (fun _ => xX0) (pl := []) mixed (by kernel_rfl) hI1 hW2 s18 rfl rfl (fun _ => by decide) ?_ fun _ a19 w19 _ s19 => ?_)
  · refine sxg ?_
    try with_reducible exact trivial
    exact ⟨(), Mt.wk (rl := [0, 1, 2, 3, 4, 5, 6, 7, 8, 9, 10]) ⟨by kernel_rfl, by ((simp only [push_cast, ↓branch_true, ↓branch_false, Nat.reduceBEq, Nat.reduceAdd, Nat.reduceMul, Nat.reduceSub, Int.reduceToNat, reduceCtorEq, Int.reduceAdd, Int.reduceEq, Int.reduceLE, Int.reduceLT, Nat.reduceLT, Nat.reduceLeDiff, ↓arr30, ↓arr31, ↓arr32, Int.reduceSub, Int.reduceMul, Int.reduceNeg, Int.reduceBEq, Int.reduceBNe, Int.reduceTDiv, decide_true, decide_false, decide_not, Int.max_def, Int.min_def, ↓reduceIte, ne_eq, Bool.not_true, Bool.not_false])), by ((simp only [push_cast, ↓branch_true, ↓branch_false, Nat.reduceBEq, Nat.reduceAdd, Nat.reduceMul, Nat.reduceSub, Int.reduceToNat, reduceCtorEq, Int.reduceAdd, Int.reduceEq, Int.reduceLE, Int.reduceLT, Nat.reduceLT, Nat.reduceLeDiff, ↓arr30, ↓arr31, ↓arr32, Int.reduceSub, Int.reduceMul, Int.reduceNeg, Int.reduceBEq, Int.reduceBNe, Int.reduceTDiv, decide_true, decide_false, decide_not, Int.max_def, Int.min_def, ↓reduceIte, ne_eq, Bool.not_true, Bool.not_false]))⟩⟩
  refine wpIn_seq (pieceI (Y := Unit) (T := tP i c c2) (N := 11) (fun _ => True) .normal (fun _ => [(4, .v (.int .i64 1)), (0, .f (.yield l) [] []), (1, .p 7 0 0), (2, .p 6 0 0), (12, .s 2 0 0 1 c2 10), (13, .v (.int .i64 1)), (14, .v (.int .i64 0)), (15, .v (.bool true)), (6, .p 8 0 0), (7, .s 9 0 0 2 cp 3), (22, .v (.int .i64 2)), (23, .v (.int .i64 1)), (24, .v (.bool true)), (8, .v (.int .i64 1)), (9, .s 11 0 0 2 2 3)]) (fun _ => [oRn, rPts pth, deadOb, oPts [⟨0, 0, 0⟩, ⟨0, 0, 0⟩] 2]) (pl := []) mixed (by kernel_rfl) hI1 hW2 s19 rfl rfl (fun _ => by decide) ?_ fun _ a20 w20 _ s20 => ?_)
  · refine sxg ?_
    try with_reducible exact trivial
    refine ⟨(), Mt.wk (rl := [0, 1, 2, 3, 4, 5, 6, 7, 8, 9, 10, 11]) ⟨by kernel_rfl, ?_, ?_⟩⟩
    · refine sxg ?_
      try with_reducible exact trivial
    · refine sxg ?_
      try with_reducible exact trivial
      intro _ _ k hk
      rcases k with _ | _ | k
      · exact ⟨rfl, rfl, rfl⟩
      · exact ⟨rfl, rfl, rfl⟩
      · omega
  refine wpIn_seq (pieceI (Y := Unit) (T := tP i c c2) (N := 12) (fun _ => True) .normal (fun _ => [(4, .v (.int .i64 1)), (0, .f (.yield l) [] []), (1, .p 7 0 0), (2, .p 6 0 0), (12, .s 2 0 0 1 c2 10), (13, .v (.int .i64 1)), (14, .v (.int .i64 0)), (15, .v (.bool true)), (6, .p 8 0 0), (7, .s 9 0 0 2 cp 3), (22, .v (.int .i64 2)), (23, .v (.int .i64 1)), (24, .v (.bool true)), (8, .v (.int .i64 1)), (9, .s 11 0 0 2 2 3)]) (fun _ => xX1) (pl := [(14, .pre [8] [0, 1, 2, 3, 4, 6, 7, 8] (.one 5 (.one 9 (.one 10 (.one 11 .fin)))))]) mixed (by kernel_rfl) hI1 hW2 s20 rfl rfl (fun _ => by decide) ?_ fun _ a21 w21 _ s21 => ?_)
  · refine sxg ?_
    try with_reducible exact trivial
    refine tr_un mixed (by kernel_rfl) ?_
    refine sxg ?_
    try with_reducible exact trivial
    refine sp_c (plus_pu ⟨0, 0, 0⟩ ⟨50, 50, 100⟩ (by decide) (by decide)) rfl [] ?_
    refine sxg ?_
    try with_reducible exact trivial
    refine sp_c (plus_pu ⟨50, 50, 100⟩ ⟨0, 30, 0⟩ (by decide) (by decide)) rfl [] ?_
    refine sxg ?_
    try with_reducible exact trivial
    refine tl_un mixed (by kernel_rfl) ?_
    refine sxg ?_
    try with_reducible exact trivial
    refine sp_c (plus_pu ⟨300, 0, 0⟩ ⟨50, 50, 100⟩ (by decide) (by decide)) rfl [] ?_
    refine sxg ?_
    try with_reducible exact trivial
    refine sp_c (plus_pu ⟨350, 50, 100⟩ ⟨0, 30, 0⟩ (by decide) (by decide)) rfl [] ?_
    refine sxg ?_
    try with_reducible exact trivial
    refine tl_un mixed (by kernel_rfl) ?_
    refine sxg ?_
    try with_reducible exact trivial
    refine ⟨(), Mt.wk (rl := [0, 1, 2, 3, 4, 5, 6, 7, 8, 9, 10, 11]) ⟨by kernel_rfl, ?_, ?_⟩⟩
    · refine sxg ?_
      try with_reducible exact trivial
    · refine sxg ?_
      try with_reducible exact trivial
      intro q hq
      obtain rfl : q = 0 := by omega
      refine ⟨by decide, fun k hk => ?_⟩
      have hk : k < 2 := hk
      rcases k with _ | _ | k
      · exact ⟨rfl, rfl, rfl, trivial⟩
      · exact ⟨rfl, rfl, rfl, trivial⟩
      · omega
  refine wpIn_seq (wpIn_seq (yieldI (nt := 66) (d := 1) (T := tP i c c2) (s0 := 0) (s1 := 4) (r1 := 9) (d0 := 57) (d1 := 58) (e1 := 59) (d2 := 60) (d3 := 61) hW1 hW3 s21 rfl rfl rfl rfl (by kernel_rfl) (by decide) (by decide) (by decide) (by decide) (by decide) (by decide) (by decide) (by decide) (by decide) (by decide) (by decide) (fun a22 w22 s22 => ?_) (fun a22 w22 hZ hd hz ht => by refine wpIn_cond_true (c := .tmp 61) ht (wpIn_ret ?_); exact hFin a22 w22 hZ hd) _ rfl rfl rfl rfl rfl rfl))
  refine pieceI (Y := Unit) (T := tP i c c2) (N := 12) (fun _ => True) .normal (fun _ => [(4, .v (.int .i64 1)), (0, .f (.yield l) [] []), (1, .p 7 0 0), (2, .p 6 0 0), (12, .s 2 0 0 1 c2 10), (13, .v (.int .i64 1)), (14, .v (.int .i64 0)), (15, .v (.bool true)), (6, .p 8 0 0), (7, .s 9 0 0 2 cp 3), (22, .v (.int .i64 2)), (23, .v (.int .i64 1)), (24, .v (.bool true)), (8, .v (.int .i64 1)), (9, .s 11 0 0 2 2 3), (61, .v (.bool false))]) (fun _ => xX1) (pl := []) mixed (by kernel_rfl) hI1 hW2 s22 rfl rfl (fun _ => by decide) ?_ fun _ a23 w23 _ s23 => ?_
  · refine sxg ?_
    try with_reducible exact trivial
    exact ⟨(), Mt.wk (rl := [0, 1, 2, 3, 4, 5, 6, 7, 8, 9, 10, 11]) ⟨by kernel_rfl, by ((simp only [push_cast, ↓branch_true, ↓branch_false, Nat.reduceBEq, Nat.reduceAdd, Nat.reduceMul, Nat.reduceSub, Int.reduceToNat, reduceCtorEq, Int.reduceAdd, Int.reduceEq, Int.reduceLE, Int.reduceLT, Nat.reduceLT, Nat.reduceLeDiff, ↓arr30, ↓arr31, ↓arr32, Int.reduceSub, Int.reduceMul, Int.reduceNeg, Int.reduceBEq, Int.reduceBNe, Int.reduceTDiv, decide_true, decide_false, decide_not, Int.max_def, Int.min_def, ↓reduceIte, ne_eq, Bool.not_true, Bool.not_false])), by ((simp only [push_cast, ↓branch_true, ↓branch_false, Nat.reduceBEq, Nat.reduceAdd, Nat.reduceMul, Nat.reduceSub, Int.reduceToNat, reduceCtorEq, Int.reduceAdd, Int.reduceEq, Int.reduceLE, Int.reduceLT, Nat.reduceLT, Nat.reduceLeDiff, ↓arr30, ↓arr31, ↓arr32, Int.reduceSub, Int.reduceMul, Int.reduceNeg, Int.reduceBEq, Int.reduceBNe, Int.reduceTDiv, decide_true, decide_false, decide_not, Int.max_def, Int.min_def, ↓reduceIte, ne_eq, Bool.not_true, Bool.not_false]))⟩⟩
  refine pieceI (Y := Unit) (T := tP i c c2) (N := 12) (fun _ => True) .normal (fun _ => [(4, .v (.int .i64 2)), (0, .f (.yield l) [] []), (1, .p 7 0 0), (2, .p 6 0 0), (12, .s 2 0 0 1 c2 10), (13, .v (.int .i64 1)), (14, .v (.int .i64 0)), (15, .v (.bool true)), (6, .p 8 0 0), (7, .s 9 0 0 2 cp 3), (22, .v (.int .i64 2)), (23, .v (.int .i64 1)), (24, .v (.bool true)), (8, .v (.int .i64 1)), (9, .s 11 0 0 2 2 3)]) (fun _ => xX1) (pl := []) mixed (by kernel_rfl) hI1 hW2 s23 rfl rfl (fun _ => by decide) ?_ fun _ a24 w24 _ s24 => ?_
  · refine sxg ?_
    try with_reducible exact trivial
    exact ⟨(), Mt.wk (rl := [0, 1, 2, 3, 4, 5, 6, 7, 8, 9, 10, 11]) ⟨by kernel_rfl, by ((simp only [push_cast, ↓branch_true, ↓branch_false, Nat.reduceBEq, Nat.reduceAdd, Nat.reduceMul, Nat.reduceSub, Int.reduceToNat, reduceCtorEq, Int.reduceAdd, Int.reduceEq, Int.reduceLE, Int.reduceLT, Nat.reduceLT, Nat.reduceLeDiff, ↓arr30, ↓arr31, ↓arr32, Int.reduceSub, Int.reduceMul, Int.reduceNeg, Int.reduceBEq, Int.reduceBNe, Int.reduceTDiv, decide_true, decide_false, decide_not, Int.max_def, Int.min_def, ↓reduceIte, ne_eq, Bool.not_true, Bool.not_false])), by ((simp only [push_cast, ↓branch_true, ↓branch_false, Nat.reduceBEq, Nat.reduceAdd, Nat.reduceMul, Nat.reduceSub, Int.reduceToNat, reduceCtorEq, Int.reduceAdd, Int.reduceEq, Int.reduceLE, Int.reduceLT, Nat.reduceLT, Nat.reduceLeDiff, ↓arr30, ↓arr31, ↓arr32, Int.reduceSub, Int.reduceMul, Int.reduceNeg, Int.reduceBEq, Int.reduceBNe, Int.reduceTDiv, decide_true, decide_false, decide_not, Int.max_def, Int.min_def, ↓reduceIte, ne_eq, Bool.not_true, Bool.not_false]))⟩⟩
  refine pieceI (Y := Unit) (T := tP i c c2) (N := 12) (fun _ => True) .normal (fun _ => [(4, .v (.int .i64 2)), (0, .f (.yield l) [] []), (1, .p 7 0 0), (2, .p 6 0 0), (12, .s 2 0 0 1 c2 10), (13, .v (.int .i64 1)), (14, .v (.int .i64 0)), (15, .v (.bool true)), (6, .p 8 0 0), (7, .s 9 0 0 2 cp 3), (22, .v (.int .i64 2)), (23, .v (.int .i64 2)), (24, .v (.bool true)), (8, .v (.int .i64 1)), (9, .s 11 0 0 2 2 3)]) (fun _ => xX1) (pl := []) mixed (by kernel_rfl) hI1 hW2 s24 rfl rfl (fun _ => by decide) ?_ fun _ a25 w25 _ s25 => ?_
  · refine sxg ?_
    try with_reducible exact trivial
    exact ⟨(), Mt.wk (rl := [0, 1, 2, 3, 4, 5, 6, 7, 8, 9, 10, 11]) ⟨by kernel_rfl, by ((simp only [push_cast, ↓branch_true, ↓branch_false, Nat.reduceBEq, Nat.reduceAdd, Nat.reduceMul, Nat.reduceSub, Int.reduceToNat, reduceCtorEq, Int.reduceAdd, Int.reduceEq, Int.reduceLE, Int.reduceLT, Nat.reduceLT, Nat.reduceLeDiff, ↓arr30, ↓arr31, ↓arr32, Int.reduceSub, Int.reduceMul, Int.reduceNeg, Int.reduceBEq, Int.reduceBNe, Int.reduceTDiv, decide_true, decide_false, decide_not, Int.max_def, Int.min_def, ↓reduceIte, ne_eq, Bool.not_true, Bool.not_false])), by ((simp only [push_cast, ↓branch_true, ↓branch_false, Nat.reduceBEq, Nat.reduceAdd, Nat.reduceMul, Nat.reduceSub, Int.reduceToNat, reduceCtorEq, Int.reduceAdd, Int.reduceEq, Int.reduceLE, Int.reduceLT, Nat.reduceLT, Nat.reduceLeDiff, ↓arr30, ↓arr31, ↓arr32, Int.reduceSub, Int.reduceMul, Int.reduceNeg, Int.reduceBEq, Int.reduceBNe, Int.reduceTDiv, decide_true, decide_false, decide_not, Int.max_def, Int.min_def, ↓reduceIte, ne_eq, Bool.not_true, Bool.not_false]))⟩⟩
  refine loopIn_un ?_
  refine wpIn_seq (pieceI (Y := Unit) (T := tP i c c2) (N := 12) (fun _ => True) .normal (fun _ => [(4, .v (.int .i64 2)), (0, .f (.yield l) [] []), (1, .p 7 0 0), (2, .p 6 0 0), (12, .s 2 0 0 1 c2 10), (13, .v (.int .i64 1)), (14, .v (.int .i64 0)), (15, .v (.bool true)), (6, .p 8 0 0), (7, .s 9 0 0 2 cp 3), (22, .v (.int .i64 2)), (23, .v (.int .i64 2)), (24, .v (.bool false)), (8, .v (.int .i64 1)), (9, .s 11 0 0 2 2 3)]) (fun _ => xX1) (pl := []) mixed (by kernel_rfl) hI1 hW2 s25 rfl rfl (fun _ => by decide) ?_ fun _ a26 w26 _ s26 => ?_)
  · refine sxg ?_
    try with_reducible exact trivial
    exact ⟨(), Mt.wk (rl := [0, 1, 2, 3, 4, 5, 6, 7, 8, 9, 10, 11]) ⟨by kernel_rfl, by ((simp only [push_cast, ↓branch_true, ↓branch_false, Nat.reduceBEq, Nat.reduceAdd, Nat.reduceMul, Nat.reduceSub, Int.reduceToNat, reduceCtorEq, Int.reduceAdd, Int.reduceEq, Int.reduceLE, Int.reduceLT, Nat.reduceLT, Nat.reduceLeDiff, ↓arr30, ↓arr31, ↓arr32, Int.reduceSub, Int.reduceMul, Int.reduceNeg, Int.reduceBEq, Int.reduceBNe, Int.reduceTDiv, decide_true, decide_false, decide_not, Int.max_def, Int.min_def, ↓reduceIte, ne_eq, Bool.not_true, Bool.not_false])), by ((simp only [push_cast, ↓branch_true, ↓branch_false, Nat.reduceBEq, Nat.reduceAdd, Nat.reduceMul, Nat.reduceSub, Int.reduceToNat, reduceCtorEq, Int.reduceAdd, Int.reduceEq, Int.reduceLE, Int.reduceLT, Nat.reduceLT, Nat.reduceLeDiff, ↓arr30, ↓arr31, ↓arr32, Int.reduceSub, Int.reduceMul, Int.reduceNeg, Int.reduceBEq, Int.reduceBNe, Int.reduceTDiv, decide_true, decide_false, decide_not, Int.max_def, Int.min_def, ↓reduceIte, ne_eq, Bool.not_true, Bool.not_false]))⟩⟩
  refine wpIn_seq (pieceI (Y := Unit) (T := tP i c c2) (N := 12) (fun _ => True) (.exit 2) (fun _ => [(4, .v (.int .i64 2)), (0, .f (.yield l) [] []), (1, .p 7 0 0), (2, .p 6 0 0), (12, .s 2 0 0 1 c2 10), (13, .v (.int .i64 1)), (14, .v (.int .i64 0)), (15, .v (.bool true)), (6, .p 8 0 0), (7, .s 9 0 0 2 cp 3), (22, .v (.int .i64 2)), (23, .v (.int .i64 2)), (24, .v (.bool false)), (8, .v (.int .i64 1)), (9, .s 11 0 0 2 2 3)]) (fun _ => xX1) (pl := []) mixed (by kernel_rfl) hI1 hW2 s26 rfl rfl (fun _ => by decide) ?_ fun _ a27 w27 _ s27 => ?_)
  · refine sxg ?_
    try with_reducible exact trivial
    exact ⟨(), Mt.wk (rl := [0, 1, 2, 3, 4, 5, 6, 7, 8, 9, 10, 11]) ⟨by kernel_rfl, by ((simp only [push_cast, ↓branch_true, ↓branch_false, Nat.reduceBEq, Nat.reduceAdd, Nat.reduceMul, Nat.reduceSub, Int.reduceToNat, reduceCtorEq, Int.reduceAdd, Int.reduceEq, Int.reduceLE, Int.reduceLT, Nat.reduceLT, Nat.reduceLeDiff, ↓arr30, ↓arr31, ↓arr32, Int.reduceSub, Int.reduceMul, Int.reduceNeg, Int.reduceBEq, Int.reduceBNe, Int.reduceTDiv, decide_true, decide_false, decide_not, Int.max_def, Int.min_def, ↓reduceIte, ne_eq, Bool.not_true, Bool.not_false])), by ((simp only [push_cast, ↓branch_true, ↓branch_false, Nat.reduceBEq, Nat.reduceAdd, Nat.reduceMul, Nat.reduceSub, Int.reduceToNat, reduceCtorEq, Int.reduceAdd, Int.reduceEq, Int.reduceLE, Int.reduceLT, Nat.reduceLT, Nat.reduceLeDiff, ↓arr30, ↓arr31, ↓arr32, Int.reduceSub, Int.reduceMul, Int.reduceNeg, Int.reduceBEq, Int.reduceBNe, Int.reduceTDiv, decide_true, decide_false, decide_not, Int.max_def, Int.min_def, ↓reduceIte, ne_eq, Bool.not_true, Bool.not_false]))⟩⟩
  simp only [Exit.then, Exit.inBlock, if_true]
  refine pieceI (Y := Unit) (T := tP i c c2) (N := 12) (fun _ => True) .normal (fun _ => [(4, .v (.int .i64 2)), (0, .f (.yield l) [] []), (1, .p 7 0 0), (2, .p 6 0 0), (12, .s 2 0 0 1 c2 10), (13, .v (.int .i64 1)), (14, .v (.int .i64 1)), (15, .v (.bool true)), (6, .p 8 0 0), (7, .s 9 0 0 2 cp 3), (22, .v (.int .i64 2)), (23, .v (.int .i64 2)), (24, .v (.bool false)), (8, .v (.int .i64 1)), (9, .s 11 0 0 2 2 3)]) (fun _ => xX1) (pl := []) mixed (by kernel_rfl) hI1 hW2 s27 rfl rfl (fun _ => by decide) ?_ fun _ a28 w28 _ s28 => ?_
  · refine sxg ?_
    try with_reducible exact trivial
    exact ⟨(), Mt.wk (rl := [0, 1, 2, 3, 4, 5, 6, 7, 8, 9, 10, 11]) ⟨by kernel_rfl, by ((simp only [push_cast, ↓branch_true, ↓branch_false, Nat.reduceBEq, Nat.reduceAdd, Nat.reduceMul, Nat.reduceSub, Int.reduceToNat, reduceCtorEq, Int.reduceAdd, Int.reduceEq, Int.reduceLE, Int.reduceLT, Nat.reduceLT, Nat.reduceLeDiff, ↓arr30, ↓arr31, ↓arr32, Int.reduceSub, Int.reduceMul, Int.reduceNeg, Int.reduceBEq, Int.reduceBNe, Int.reduceTDiv, decide_true, decide_false, decide_not, Int.max_def, Int.min_def, ↓reduceIte, ne_eq, Bool.not_true, Bool.not_false])), by ((simp only [push_cast, ↓branch_true, ↓branch_false, Nat.reduceBEq, Nat.reduceAdd, Nat.reduceMul, Nat.reduceSub, Int.reduceToNat, reduceCtorEq, Int.reduceAdd, Int.reduceEq, Int.reduceLE, Int.reduceLT, Nat.reduceLT, Nat.reduceLeDiff, ↓arr30, ↓arr31, ↓arr32, Int.reduceSub, Int.reduceMul, Int.reduceNeg, Int.reduceBEq, Int.reduceBNe, Int.reduceTDiv, decide_true, decide_false, decide_not, Int.max_def, Int.min_def, ↓reduceIte, ne_eq, Bool.not_true, Bool.not_false]))⟩⟩
  refine loopIn_un ?_
  refine wpIn_seq (pieceI (Y := Unit) (T := tP i c c2) (N := 12) (fun _ => True) .normal (fun _ => [(4, .v (.int .i64 2)), (0, .f (.yield l) [] []), (1, .p 7 0 0), (2, .p 6 0 0), (12, .s 2 0 0 1 c2 10), (13, .v (.int .i64 1)), (14, .v (.int .i64 1)), (15, .v (.bool false)), (6, .p 8 0 0), (7, .s 9 0 0 2 cp 3), (22, .v (.int .i64 2)), (23, .v (.int .i64 2)), (24, .v (.bool false)), (8, .v (.int .i64 1)), (9, .s 11 0 0 2 2 3)]) (fun _ => xX1) (pl := []) mixed (by kernel_rfl) hI1 hW2 s28 rfl rfl (fun _ => by decide) ?_ fun _ a29 w29 _ s29 => ?_)
  · refine sxg ?_
    try with_reducible exact trivial
    exact ⟨(), Mt.wk (rl := [0, 1, 2, 3, 4, 5, 6, 7, 8, 9, 10, 11]) ⟨by kernel_rfl, by ((simp only [push_cast, ↓branch_true, ↓branch_false, Nat.reduceBEq, Nat.reduceAdd, Nat.reduceMul, Nat.reduceSub, Int.reduceToNat, reduceCtorEq, Int.reduceAdd, Int.reduceEq, Int.reduceLE, Int.reduceLT, Nat.reduceLT, Nat.reduceLeDiff, ↓arr30, ↓arr31, ↓arr32, Int.reduceSub, Int.reduceMul, Int.reduceNeg, Int.reduceBEq, Int.reduceBNe, Int.reduceTDiv, decide_true, decide_false, decide_not, Int.max_def, Int.min_def, ↓reduceIte, ne_eq, Bool.not_true, Bool.not_false])), by ((simp only [push_cast, ↓branch_true, ↓branch_false, Nat.reduceBEq, Nat.reduceAdd, Nat.reduceMul, Nat.reduceSub, Int.reduceToNat, reduceCtorEq, Int.reduceAdd, Int.reduceEq, Int.reduceLE, Int.reduceLT, Nat.reduceLT, Nat.reduceLeDiff, ↓arr30, ↓arr31, ↓arr32, Int.reduceSub, Int.reduceMul, Int.reduceNeg, Int.reduceBEq, Int.reduceBNe, Int.reduceTDiv, decide_true, decide_false, decide_not, Int.max_def, Int.min_def, ↓reduceIte, ne_eq, Bool.not_true, Bool.not_false]))⟩⟩
  refine wpIn_seq (pieceI (Y := Unit) (T := tP i c c2) (N := 12) (fun _ => True) (.exit 0) (fun _ => [(4, .v (.int .i64 2)), (0, .f (.yield l) [] []), (1, .p 7 0 0), (2, .p 6 0 0), (12, .s 2 0 0 1 c2 10), (13, .v (.int .i64 1)), (14, .v (.int .i64 1)), (15, .v (.bool false)), (6, .p 8 0 0), (7, .s 9 0 0 2 cp 3), (22, .v (.int .i64 2)), (23, .v (.int .i64 2)), (24, .v (.bool false)), (8, .v (.int .i64 1)), (9, .s 11 0 0 2 2 3)]) (fun _ => xX1) (pl := []) mixed (by kernel_rfl) hI1 hW2 s29 rfl rfl (fun _ => by decide) ?_ fun _ a30 w30 _ s30 => ?_)
  · refine sxg ?_
    try with_reducible exact trivial
    exact ⟨(), Mt.wk (rl := [0, 1, 2, 3, 4, 5, 6, 7, 8, 9, 10, 11]) ⟨by kernel_rfl, by ((simp only [push_cast, ↓branch_true, ↓branch_false, Nat.reduceBEq, Nat.reduceAdd, Nat.reduceMul, Nat.reduceSub, Int.reduceToNat, reduceCtorEq, Int.reduceAdd, Int.reduceEq, Int.reduceLE, Int.reduceLT, Nat.reduceLT, Nat.reduceLeDiff, ↓arr30, ↓arr31, ↓arr32, Int.reduceSub, Int.reduceMul, Int.reduceNeg, Int.reduceBEq, Int.reduceBNe, Int.reduceTDiv, decide_true, decide_false, decide_not, Int.max_def, Int.min_def, ↓reduceIte, ne_eq, Bool.not_true, Bool.not_false])), by ((simp only [push_cast, ↓branch_true, ↓branch_false, Nat.reduceBEq, Nat.reduceAdd, Nat.reduceMul, Nat.reduceSub, Int.reduceToNat, reduceCtorEq, Int.reduceAdd, Int.reduceEq, Int.reduceLE, Int.reduceLT, Nat.reduceLT, Nat.reduceLeDiff, ↓arr30, ↓arr31, ↓arr32, Int.reduceSub, Int.reduceMul, Int.reduceNeg, Int.reduceBEq, Int.reduceBNe, Int.reduceTDiv, decide_true, decide_false, decide_not, Int.max_def, Int.min_def, ↓reduceIte, ne_eq, Bool.not_true, Bool.not_false]))⟩⟩
  simp only [Exit.then, Exit.inBlock, if_true]
  obtain ⟨⟨βe, hWe, _⟩, _, hde⟩ := s30
  exact hEnd _ _ _ _ hWe hde
end Go.Proofs.YtolioflblegneaaGreat
