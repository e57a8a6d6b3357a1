/- Contracts: the first balanced partition (Parts). -/
import Derived.Test.YtapbhppfecfobaaDoorK
set_option maxRecDepth 100000
set_option linter.unusedSimpArgs false
set_option linter.unusedVariables false
namespace Go.Proofs.YtapbhppfecfobaaDoor
open Go.RowKit
def oOut (F : Nat) (out : List (List Int)) (cp : Nat → Nat) (oc : Nat) : Ob := ⟨22, false, .row 1 1 (fun _ => out.length) (fun _ => oc) (fun _ k => [.s F k 0 (ix out k).length (cp k) 1])⟩
def oFa (out : List (List Int)) (cp : Nat → Nat) : Ob := ⟨3, false, .row 1 (big + 2) (fun k => (ix out k).length) cp (fun k q => [.v (.int .i64 (ix (ix out k) q))])⟩
attribute [push_cast] oOut oFa
/-- The table of the greatest numbers of parts, up to i, and at i itself v. -/
def mrow (l : List Int) (N i : Nat) (v : Int) : List Int := (List.range N).map fun q => if q < i then most l q else if q = i then v else 0
theorem mrow_len (l : List Int) (N i : Nat) (v : Int) : (mrow l N i v).length = N := by simp [mrow]
theorem mrow_ix {l : List Int} {N i q : Nat} {v : Int} (h : q < N) : ix (mrow l N i v) q = if q < i then most l q else if q = i then v else 0 := by
  rw [ix_eq (by rw [mrow_len]; exact h)]; simp [mrow]
theorem mrow_up {l : List Int} {N i : Nat} : mrow l N i (most l i) = mrow l N (i + 1) 0 := by
  refine List.map_congr_left fun q _ => ?_
  rcases Nat.lt_trichotomy q i with h | h | h
  · rw [if_pos h, if_pos (by omega)]
  · subst h; rw [if_neg (by omega), if_pos rfl, if_pos (by omega)]
  · rw [if_neg (by omega), if_neg (by omega), if_neg (by omega)]; split <;> rfl
def slB (o : Option Nat) (cap : Nat) : SV := match o with
  | none => .v (.slice none 0 0)
  | some b => .s 5 0 0 (bL b).length cap 1
def obB (o : Option Nat) (cap : Nat) : Ob := match o with
  | none => deadOb
  | some b => rIO (bL b) cap
theorem slB_none (cap : Nat) : slB none cap = .v (.slice none 0 0) := rfl
theorem slB_some (b cap : Nat) : slB (some b) cap = .s 5 0 0 (bL b).length cap 1 := rfl
theorem obB_none (cap : Nat) : obB none cap = deadOb := rfl
theorem obB_some (b cap : Nat) : obB (some b) cap = rIO (bL b) cap := rfl
theorem andN_dif {n a b : Nat} (hn : 32 ≤ n) (ha : a < 65536) (hb : b < 65536) : a &&& (2 ^ n - 1 - b) = dif a b := by
  have hp : 2 ^ 32 ≤ 2 ^ n := Nat.pow_le_pow_right (by decide) hn
  refine Nat.eq_of_testBit_eq fun i => ?_
  rw [dif_bit ha hb, Nat.testBit_and, show 2 ^ n - 1 - b = 2 ^ n - (b + 1) by omega, Nat.testBit_two_pow_sub_succ (by omega)]
  by_cases h : i < n
  · simp [h]
  · rw [Nat.testBit_lt_two_pow (x := a) (i := i) (by have := Nat.pow_le_pow_right (n := 2) (by decide) (show 32 ≤ i by omega); omega)]
    simp
theorem i64_andN {a b : Nat} (ha : a < 65536) (hb : b < 65536) : IntKind.i64.wrap (((BitVec.ofInt IntKind.i64.bits (a : Int) &&& ~~~ BitVec.ofInt IntKind.i64.bits (b : Int)).toNat : Nat) : Int) = ((dif a b : Nat) : Int) := by
  have hd := dif_le a b
  rw [BitVec.toNat_and, BitVec.toNat_not, show IntKind.i64.bits = 64 from rfl, BitVec.ofInt_natCast, BitVec.ofInt_natCast, BitVec.toNat_ofNat, BitVec.toNat_ofNat, Nat.mod_eq_of_lt (by omega), Nat.mod_eq_of_lt (by omega), andN_dif (by decide) ha hb]
  rw [IntKind.wrap_i64]; omega
theorem u32_andN {a b : Nat} (ha : a < 65536) (hb : b < 65536) : IntKind.u32.wrap (((BitVec.ofInt IntKind.u32.bits (a : Int) &&& ~~~ BitVec.ofInt IntKind.u32.bits (b : Int)).toNat : Nat) : Int) = ((dif a b : Nat) : Int) := by
  have hd := dif_le a b
  rw [BitVec.toNat_and, BitVec.toNat_not, show IntKind.u32.bits = 32 from rfl, BitVec.ofInt_natCast, BitVec.ofInt_natCast, BitVec.toNat_ofNat, BitVec.toNat_ofNat, Nat.mod_eq_of_lt (by omega), Nat.mod_eq_of_lt (by omega), andN_dif (by decide) ha hb]
  rw [IntKind.wrap_u32]; omega
theorem bL_ix {s j : Nat} (h : j < (bL s).length) (hs : s < 65536) : ∃ k : Nat, ix (bL s) j = (k : Int) ∧ s.testBit k = true ∧ k < 16 ∧ ∃ h : j < (bitsL s).length, (bitsL s)[j] = k := by
  have hb : j < (bitsL s).length := by rw [← bL_len]; exact h
  refine ⟨(bitsL s)[j], ?_, ?_, ?_, hb, rfl⟩
  · rw [ix_eq h]; simp [bL]
  all_goals
    have hm := List.getElem_mem hb
    have ht := bits_mem.1 hm
    first
    | exact ht.2
    | refine Nat.lt_of_not_le fun h16 => ?_
      rw [Nat.testBit_lt_two_pow (Nat.lt_of_lt_of_le (show s < 2 ^ 16 from hs) (Nat.pow_le_pow_right (by decide) h16))] at ht
      simp at ht
theorem most_le {l : List Int} : ∀ (i : Nat), i < 65536 → most l i ≤ i := by
  intro i
  induction i using Nat.strongRecOn with
  | _ i ih =>
    intro hi
    rcases Nat.eq_zero_or_pos i with h0 | h0
    · subst h0; rw [most_zero]; decide
    · rcases most_is (l := l) h0 hi with h | ⟨k, hk, h⟩
      · rw [h]; split <;> omega
      · have hlt := dif_lt hi (bit_one hk) (Nat.two_pow_pos _)
        have := ih _ hlt (by omega)
        rw [h]; split <;> omega
theorem mrow_set {l : List Int} {N i k i1 : Nat} {v v' : Int} {rl : List Nat} (hi : i1 < 1) (hk : k < N) : Value.int IntKind.i64 (ix (mrow l N i v') k) = Value.int IntKind.i64 (bif i1 == 0 && k == i then v' else ix (mrow l N i v) k) ∧ mtL rl [] (bif i1 == 0 && k == i then [] else []) := by
  obtain rfl : i1 = 0 := by omega
  rw [mrow_ix hk, mrow_ix hk]
  by_cases e : k = i
  · subst e
    have hb : (k == k) = true := by simp
    rw [hb, if_neg (by omega), if_pos rfl]
    exact ⟨rfl, trivial⟩
  · have hb : (k == i) = false := by simpa using e
    rw [hb, if_neg e, if_neg e]
    exact ⟨rfl, trivial⟩
def pfx (l : List Int) (i j : Nat) : Int := (((bitsL i).take j).map fun k => most l (dif i (2 ^ k))).foldl max 0
theorem pfx_succ {l : List Int} {i j : Nat} (h : j < (bitsL i).length) : pfx l i (j + 1) = max (pfx l i j) (most l (dif i (2 ^ (bitsL i)[j]))) := by
  unfold pfx
  rw [List.take_succ_eq_append_getElem h, List.map_append, List.foldl_append]
  rfl
theorem pfx_all {l : List Int} {i : Nat} (h0 : 0 < i) (hi : i < 65536) : most l i = pfx l i (bitsL i).length + if sumS l i = 0 then 1 else 0 := by
  rw [most_step h0 hi, mval, pfx, List.take_length]
theorem mrow_0 {l : List Int} {N : Nat} : mrow l N 1 0 = List.replicate N 0 := by
  refine List.ext_getElem (by simp [mrow]) fun q h1 h2 => ?_
  simp only [mrow, List.getElem_map, List.getElem_range, List.getElem_replicate]
  split
  · obtain rfl : q = 0 := by omega
    exact most_zero l
  · split <;> rfl
theorem bL_pos {s : Nat} (h0 : 0 < s) (h : s < 65536) : 0 < (bL s).length := by
  rw [bL_len, bits_cons h0 (Nat.lt_trans h (by decide))]
  simp
def difB (left : Nat) (L : List Nat) : Nat := L.foldl (fun a k => dif a (2 ^ k)) left
theorem difB_bit : ∀ (L : List Nat) (left : Nat), left < 65536 → (∀ k ∈ L, k < 16) → difB left L < 65536 ∧ ∀ i, (difB left L).testBit i = (left.testBit i && !L.contains i)
  | [], left, hl, _ => ⟨hl, fun i => by simp [difB]⟩
  | k :: L, left, hl, h => by
    have hk := h k (by simp)
    have hk16 : 2 ^ k < 2 ^ 16 := Nat.pow_lt_pow_right (by decide) hk
    have hle := dif_le left (2 ^ k)
    obtain ⟨h1, h2⟩ := difB_bit L (dif left (2 ^ k)) (by omega) fun j hj => h j (by simp [hj])
    refine ⟨h1, fun i => ?_⟩
    have h3 := h2 i
    rw [dif_bit hl hk16, Nat.testBit_two_pow] at h3
    show (difB (dif left (2 ^ k)) L).testBit i = _
    rw [h3, List.contains_cons]
    by_cases e : k = i
    · subst e; simp
    · have e2 : (i == k) = false := by simpa using fun h => e h.symm
      simp [e, e2]
theorem difB_all {left b : Nat} (hl : left < 65536) (hb : b < 65536) : difB left (bitsL b) = dif left b := by
  have hk : ∀ k ∈ bitsL b, k < 16 := fun k hk => bits_lt (n := 16) hb hk
  obtain ⟨h1, h2⟩ := difB_bit (bitsL b) left hl hk
  refine Nat.eq_of_testBit_eq fun i => ?_
  rw [h2, dif_bit hl hb]
  have e : (bitsL b).contains i = b.testBit i := by
    rw [Bool.eq_iff_iff, List.contains_iff_mem, bits_mem]
    refine ⟨fun h => h.2, fun h => ⟨Nat.lt_of_not_le fun h2 => ?_, h⟩⟩
    rw [Nat.testBit_lt_two_pow (Nat.lt_of_lt_of_le (show b < 2 ^ 16 from hb) (Nat.pow_le_pow_right (by decide) (by omega)))] at h
    cases h
  rw [e]
theorem difB_succ {left j : Nat} {L : List Nat} (h : j < L.length) : difB left (L.take (j + 1)) = dif (difB left (L.take j)) (2 ^ L[j]) := by
  unfold difB
  rw [List.take_succ_eq_append_getElem h, List.foldl_append]
  rfl
set_option maxHeartbeats 1000000 in
theorem Parts_sp (l : List Int) (c : Nat) (hl : l.length ≤ 9223372036854775807) : Sp Tryd.prog 21 [.s 0 0 0 l.length c 1] [rR l]
    (fun r H => ∃ oc cp, (partsL l).length ≤ oc ∧ r = .t [.s 1 0 0 (partsL l).length oc 1, .v (.int .i64 (partsE l))] ∧ H = [rR l, oOut 2 (partsL l) cp oc, oFa (partsL l) cp]) := by
  have hbig := big_eq
  refine sp_weak ?_
  refine sp_of_ex true [(15, .one 0 (.one 1 (.one 2 (.one 3 (.one 4 (.one 6 (.one 7 (.one 8 (.one 9 (.one 10 (.one 11 (.alt [(5, .one 12 (.one 13 (.one 14 (.one 15 .fin)))), (12, .one 5 (.one 13 (.one 14 (.one 15 .fin))))])))))))))))), (26, .one 0 (.one 1 (.one 2 (.one 3 (.one 4 (.one 5 (.one 6 (.one 7 (.one 8 (.one 9 (.one 10 (.one 11 (.one 12 (.one 13 (.one 14 (.one 15 (.one 16 (.one 18 (.one 19 (.one 20 (.alt [(17, .one 21 (.one 22 (.one 23 (.one 24 .fin)))), (21, .one 22 (.one 17 (.one 23 (.one 24 .fin))))])))))))))))))))))))))] mixed Tryd.call21 Tryd.func21 rfl Tryd.ntmps21 Tryd.results21 (by decide +kernel) rfl ?_
  simp only [push_cast, ↓branch_true, ↓branch_false, Nat.reduceBEq, Nat.reduceAdd, Nat.reduceMul, Nat.reduceSub, Int.reduceToNat, reduceCtorEq, branch_decide, branch_not, branch_beq, branch_bne]
  refine sp_call (given_pu l c hl) rfl [0] rfl (by simp only [push_cast, ↓branch_true, ↓branch_false, Nat.reduceBEq, Nat.reduceAdd, Nat.reduceMul, Nat.reduceSub, Int.reduceToNat, reduceCtorEq, branch_decide, branch_not, branch_beq, branch_bne]) (by simp only [push_cast, ↓branch_true, ↓branch_false, Nat.reduceBEq, Nat.reduceAdd, Nat.reduceMul, Nat.reduceSub, Int.reduceToNat, reduceCtorEq, branch_decide, branch_not, branch_beq, branch_bne]) ?_
  simp only [push_cast, ↓branch_true, ↓branch_false, Nat.reduceBEq, Nat.reduceAdd, Nat.reduceMul, Nat.reduceSub, Int.reduceToNat, reduceCtorEq, branch_decide, branch_not, branch_beq, branch_bne]
  by_cases hg : givE l = 0
  rotate_left
  · refine ⟨fun h => absurd h hg, fun _ => ?_⟩
    have e1 : partsE l = givE l := if_pos hg
    have e2 : partsL l = [] := if_pos (by rw [e1]; exact hg)
    rw [e1, e2]
    refine ⟨_, _, [0, 1000, 1001], ?_, by kernel_rfl, ?_, 0, fun _ => 0, Nat.le_refl _, rfl, rfl⟩
    · simp only [push_cast, ↓branch_true, ↓branch_false, Nat.reduceBEq, Nat.reduceAdd, Nat.reduceMul, Nat.reduceSub, Int.reduceToNat, reduceCtorEq, branch_decide, branch_not, branch_beq, branch_bne]
    · simp only [push_cast, ↓branch_true, ↓branch_false, Nat.reduceBEq, Nat.reduceAdd, Nat.reduceMul, Nat.reduceSub, Int.reduceToNat, reduceCtorEq, branch_decide, branch_not, branch_beq, branch_bne]
      exact ⟨by omega, by omega, Or.inr fun _ => rfl⟩
  refine ⟨fun _ => ?_, fun h => absurd hg h⟩
  obtain ⟨h1, h2⟩ := given_0 hg
  have hN : 2 ^ l.length ≤ 65536 := Nat.pow_le_pow_right (n := 2) (by decide) (i := l.length) (j := 16) h1
  have hN0 : 0 < 2 ^ l.length := Nat.two_pow_pos _
  refine sp_at (sums_sp l c h1 h2) [0] rfl ?_ ?_ ?_
  · simp only [push_cast, ↓branch_true, ↓branch_false, Nat.reduceBEq, Nat.reduceAdd, Nat.reduceMul, Nat.reduceSub, Int.reduceToNat, reduceCtorEq, branch_decide, branch_not, branch_beq, branch_bne]
  · simp only [push_cast, ↓branch_true, ↓branch_false, Nat.reduceBEq, Nat.reduceAdd, Nat.reduceMul, Nat.reduceSub, Int.reduceToNat, reduceCtorEq, branch_decide, branch_not, branch_beq, branch_bne]
  rintro _ _ ⟨rfl, rfl⟩
  have hall : allN l = 2 ^ l.length - 1 := rfl
  generalize hNe : 2 ^ l.length = N at *
  simp only [push_cast, ↓branch_true, ↓branch_false, Nat.reduceBEq, Nat.reduceAdd, Nat.reduceMul, Nat.reduceSub, Int.reduceToNat, reduceCtorEq, branch_decide, branch_not, branch_beq, branch_bne]
  have e3 : ((N : Int) - 1) = ((allN l : Nat) : Int) := by omega
  have e4 : ix (allS l N) (allN l) = sumS l (allN l) := allS_ix l (by omega)
  simp only [e3, Int.toNat_natCast, e4]
  refine ⟨by omega, by omega, by omega, by omega, by omega, by rw [allS_len]; omega, fun hz => ?_, fun hz => ?_⟩
  rotate_left
  · have e5 : partsE l = 18 := by rw [partsE, if_neg (by simp [hg]), if_pos hz]
    have e6 : partsL l = [] := if_pos (by rw [e5]; decide)
    rw [e5, e6]
    refine ⟨_, _, [0, 1000, 1001], ?_, by kernel_rfl, ?_, 0, fun _ => 0, Nat.le_refl _, rfl, rfl⟩
    · simp only [push_cast, ↓branch_true, ↓branch_false, Nat.reduceBEq, Nat.reduceAdd, Nat.reduceMul, Nat.reduceSub, Int.reduceToNat, reduceCtorEq, branch_decide, branch_not, branch_beq, branch_bne]
    · simp only [push_cast, ↓branch_true, ↓branch_false, Nat.reduceBEq, Nat.reduceAdd, Nat.reduceMul, Nat.reduceSub, Int.reduceToNat, reduceCtorEq, branch_decide, branch_not, branch_beq, branch_bne]
      exact ⟨by omega, by omega, Or.inr fun _ => rfl⟩
  refine ⟨by omega, by omega, by omega, by omega, ?_⟩
  refine tr_loop mixed (by kernel_rfl) (fun (i : Nat) => [(8, .v (.int .i64 i)), (7, .s 2 0 0 N N 1), (5, .s 1 0 0 N N 1), (6, .v (.int .u32 (allN l : Nat)))])
    (fun i => [rR l, rIO (allS l N) N, rIO (mrow l N i 0) N]) (fun i => 1 ≤ i ∧ i ≤ N) (fun i => N - i) 1 ⟨Nat.le_refl _, by omega⟩ (Mt.wk (rl := [0, 1, 2]) ⟨by kernel_rfl, ?_, ?_⟩) ?_
  · simp only [push_cast, ↓branch_true, ↓branch_false, Nat.reduceBEq, Nat.reduceAdd, Nat.reduceMul, Nat.reduceSub, Int.reduceToNat, reduceCtorEq, branch_decide, branch_not, branch_beq, branch_bne]
    rfl
  · simp only [push_cast, ↓branch_true, ↓branch_false, Nat.reduceBEq, Nat.reduceAdd, Nat.reduceMul, Nat.reduceSub, Int.reduceToNat, reduceCtorEq, branch_decide, branch_not, branch_beq, branch_bne, mrow_len, allS_len]
    intro _ _ k hk
    rw [mrow_0, ix_eq (by simpa using hk), List.getElem_replicate]
  rintro i ⟨i1, i2⟩
  simp only [push_cast, ↓branch_true, ↓branch_false, Nat.reduceBEq, Nat.reduceAdd, Nat.reduceMul, Nat.reduceSub, Int.reduceToNat, reduceCtorEq, branch_decide, branch_not, branch_beq, branch_bne, mrow_len, allS_len]
  refine ⟨fun hi => ⟨by omega, ?_⟩, fun hi => ?_⟩
  · have hiN : i < N := by omega
    refine sp_at (list_sp i (by omega)) [] rfl ?_ ?_ ?_
    · simp only [push_cast, ↓branch_true, ↓branch_false, Nat.reduceBEq, Nat.reduceAdd, Nat.reduceMul, Nat.reduceSub, Int.reduceToNat, reduceCtorEq, branch_decide, branch_not, branch_beq, branch_bne]
    · simp only [push_cast, ↓branch_true, ↓branch_false, Nat.reduceBEq, Nat.reduceAdd, Nat.reduceMul, Nat.reduceSub, Int.reduceToNat, reduceCtorEq, branch_decide, branch_not, branch_beq, branch_bne]
    rintro _ _ ⟨cap, hcap, rfl, rfl⟩
    have hbl := bits_len i
    have hbL := bL_len i
    simp only [push_cast, ↓branch_true, ↓branch_false, Nat.reduceBEq, Nat.reduceAdd, Nat.reduceMul, Nat.reduceSub, Int.reduceToNat, reduceCtorEq, branch_decide, branch_not, branch_beq, branch_bne, mrow_len, allS_len]
    refine tr_loop mixed (by kernel_rfl) (fun (j : Nat) => [(47, .v (.int .i64 j)), (46, .v (.int .i64 (bL i).length)), (45, .s 3 0 0 (bL i).length cap 1), (8, .v (.int .i64 i)), (7, .s 2 0 0 N N 1), (5, .s 1 0 0 N N 1), (6, .v (.int .u32 (allN l : Nat)))])
      (fun j => [rR l, rIO (allS l N) N, rIO (mrow l N i (pfx l i j)) N, rIO (bL i) cap]) (fun j => j ≤ (bL i).length) (fun j => (bL i).length - j) 0 (Nat.zero_le _) (Mt.wk (rl := [0, 1, 2, 3]) ⟨by kernel_rfl, ?_, ?_⟩) ?_
    · simp only [push_cast, ↓branch_true, ↓branch_false, Nat.reduceBEq, Nat.reduceAdd, Nat.reduceMul, Nat.reduceSub, Int.reduceToNat, reduceCtorEq, branch_decide, branch_not, branch_beq, branch_bne]
    · simp only [push_cast, ↓branch_true, ↓branch_false, Nat.reduceBEq, Nat.reduceAdd, Nat.reduceMul, Nat.reduceSub, Int.reduceToNat, reduceCtorEq, branch_decide, branch_not, branch_beq, branch_bne, mrow_len, allS_len]
      intro _ _ k _
      rw [show pfx l i 0 = 0 from rfl]
    intro j hj
    simp only [push_cast, ↓branch_true, ↓branch_false, Nat.reduceBEq, Nat.reduceAdd, Nat.reduceMul, Nat.reduceSub, Int.reduceToNat, reduceCtorEq, branch_decide, branch_not, branch_beq, branch_bne, mrow_len, allS_len]
    refine ⟨fun hj2 => ?_, fun hj2 => ?_⟩
    · have hjn : j < (bL i).length := by omega
      obtain ⟨k, k1, k2, k3, k4, k5⟩ := bL_ix hjn (by omega)
      have hlt : dif i (2 ^ k) < i := dif_lt (by omega) (bit_one k2) (Nat.two_pow_pos _)
      have hk16 : 2 ^ k < 2 ^ 16 := Nat.pow_lt_pow_right (by decide) k3
      have e5 : (1 : Int) * 2 ^ min k IntKind.i64.bits = ((2 ^ k : Nat) : Int) := by
        rw [show IntKind.i64.bits = 64 from rfl, Nat.min_eq_left (by omega)]
        push_cast
        omega
      rw [k1]
      simp only [Int.toNat_natCast, e5, i64_andN (show i < 65536 by omega) hk16, mrow_ix hiN, mrow_ix (show dif i (2 ^ k) < N by omega), if_neg (Nat.lt_irrefl i), if_pos hlt]
      have hsu := pfx_succ (l := l) k4
      rw [k5] at hsu
      simp only [if_true]
      generalize 2 ^ k = K at *
      repeat' (with_reducible (first | apply And.intro | intro _))
      all_goals try omega
      all_goals
        refine lpK_normal (j + 1) [0, 1, 2, 3] (by omega) (by omega) (by kernel_rfl) ?_ ?_
        · simp only [push_cast, ↓branch_true, ↓branch_false, Nat.reduceBEq, Nat.reduceAdd, Nat.reduceMul, Nat.reduceSub, Int.reduceToNat, reduceCtorEq, branch_decide, branch_not, branch_beq, branch_bne]
        · simp only [push_cast, ↓branch_true, ↓branch_false, Nat.reduceBEq, Nat.reduceAdd, Nat.reduceMul, Nat.reduceSub, Int.reduceToNat, reduceCtorEq, branch_decide, branch_not, branch_beq, branch_bne, mrow_len, allS_len]
          rw [hsu]
          exact fun _ h _ h2 => mrow_set h h2
    · obtain rfl : j = (bL i).length := by omega
      have hal := pfx_all (l := l) (i := i) (by omega) (by omega)
      have hnn := most_nn l (i := i) (by omega)
      have hle := most_le (l := l) i (by omega)
      rw [← bL_len] at hal
      simp only [mrow_ix hiN, if_neg (Nat.lt_irrefl i), if_pos rfl, allS_ix l hiN]
      refine ⟨by omega, by omega, by omega, hiN, fun hz => ?_, fun hz => ?_⟩
      · rw [if_pos hz] at hal
        repeat (with_reducible refine And.intro (by omega) ?_)
        refine lpK_normal (i + 1) [0, 1, 2] ⟨by omega, by omega⟩ (by omega) (by kernel_rfl) ?_ ?_
        · simp only [push_cast, ↓branch_true, ↓branch_false, Nat.reduceBEq, Nat.reduceAdd, Nat.reduceMul, Nat.reduceSub, Int.reduceToNat, reduceCtorEq, branch_decide, branch_not, branch_beq, branch_bne]
        · simp only [push_cast, ↓branch_true, ↓branch_false, Nat.reduceBEq, Nat.reduceAdd, Nat.reduceMul, Nat.reduceSub, Int.reduceToNat, reduceCtorEq, branch_decide, branch_not, branch_beq, branch_bne, mrow_len, allS_len]
          rw [← mrow_up, hal]
          exact fun _ h _ h2 => mrow_set h h2
      · rw [if_neg hz] at hal
        repeat (with_reducible refine And.intro (by omega) ?_)
        refine lpK_normal (i + 1) [0, 1, 2] ⟨by omega, by omega⟩ (by omega) (by kernel_rfl) ?_ ?_
        · simp only [push_cast, ↓branch_true, ↓branch_false, Nat.reduceBEq, Nat.reduceAdd, Nat.reduceMul, Nat.reduceSub, Int.reduceToNat, reduceCtorEq, branch_decide, branch_not, branch_beq, branch_bne]
        · simp only [push_cast, ↓branch_true, ↓branch_false, Nat.reduceBEq, Nat.reduceAdd, Nat.reduceMul, Nat.reduceSub, Int.reduceToNat, reduceCtorEq, branch_decide, branch_not, branch_beq, branch_bne, mrow_len, allS_len]
          rw [← mrow_up, hal, Int.add_zero]
          exact fun _ _ _ _ => rfl
  rw [show i = N by omega]
  have hA : allN l < 65536 := by omega
  generalize hmr : mrow l N N 0 = mr
  have hml : mr.length = N := by rw [← hmr, mrow_len]
  have hmi : ∀ s, s ≤ allN l → ix mr s = most l s := fun s hs => by rw [← hmr, mrow_ix (by omega), if_pos (by omega)]
  have hsl := allS_len l N
  have hsi : ∀ s, s ≤ allN l → ix (allS l N) s = sumS l s := fun s hs => allS_ix l (by omega)
  generalize hsr : allS l N = sr at *
  refine tr_loop mixed (by kernel_rfl) (fun (x : List (List Int) × Nat × Nat × (Nat → Nat)) => [(6, .v (.int .u32 (x.2.1 : Nat))), (11, .s 3 0 0 x.1.length x.2.2.1 1), (7, .s 2 0 0 N N 1), (5, .s 1 0 0 N N 1)])
    (fun x => [rR l, rIO sr N, rIO mr N, oOut 4 x.1 x.2.2.2 x.2.2.1, oFa x.1 x.2.2.2])
    (fun x => x.2.1 ≤ allN l ∧ sumS l x.2.1 = 0 ∧ x.1 ++ partS l x.2.1 = partS l (allN l) ∧ x.1.length ≤ x.2.2.1 ∧ x.1.length + x.2.1 ≤ allN l ∧ ∀ k, x.1.length ≤ k → x.2.2.2 k = 0) (fun x => x.2.1) ([], allN l, 0, fun _ => 0) ⟨Nat.le_refl _, hz, rfl, Nat.le_refl _, by simp, fun _ _ => rfl⟩ (Mt.wk (rl := [0, 1, 2, 1000, 1001]) ⟨by kernel_rfl, ?_, ?_⟩) ?_
  · simp only [push_cast, ↓branch_true, ↓branch_false, Nat.reduceBEq, Nat.reduceAdd, Nat.reduceMul, Nat.reduceSub, Int.reduceToNat, reduceCtorEq, branch_decide, branch_not, branch_beq, branch_bne]
  · simp only [push_cast, ↓branch_true, ↓branch_false, Nat.reduceBEq, Nat.reduceAdd, Nat.reduceMul, Nat.reduceSub, Int.reduceToNat, reduceCtorEq, branch_decide, branch_not, branch_beq, branch_bne, hml, hsl]
    exact ⟨by omega, by omega, Or.inr fun _ => rfl⟩
  rintro ⟨out, left, oc, cp⟩ ⟨g1, g2, g3, g4, g5, g6⟩
  simp only at g1 g2 g3 g4 g5 g6
  simp only [push_cast, ↓branch_true, ↓branch_false, Nat.reduceBEq, Nat.reduceAdd, Nat.reduceMul, Nat.reduceSub, Int.reduceToNat, reduceCtorEq, branch_decide, branch_not, branch_beq, branch_bne, hml, hsl]
  refine ⟨fun h0 => ?_, fun h0 => ?_⟩
  · obtain rfl : left = 0 := by omega
    have e5 : partsE l = 0 := by rw [partsE, if_neg (by simp [hg]), if_neg (by simp [hz])]
    have e6 : partsL l = out := by
      rw [partsL, if_neg (by simp [e5]), ← g3]
      exact List.append_nil _
    rw [e5, e6]
    refine ⟨_, _, [0, 3, 4], ?_, by kernel_rfl, ?_, oc, cp, g4, rfl, rfl⟩
    · simp only [push_cast, ↓branch_true, ↓branch_false, Nat.reduceBEq, Nat.reduceAdd, Nat.reduceMul, Nat.reduceSub, Int.reduceToNat, reduceCtorEq, branch_decide, branch_not, branch_beq, branch_bne]
    · simp only [push_cast, ↓branch_true, ↓branch_false, Nat.reduceBEq, Nat.reduceAdd, Nat.reduceMul, Nat.reduceSub, Int.reduceToNat, reduceCtorEq, branch_decide, branch_not, branch_beq, branch_bne]
  have hl0 : 0 < left := by omega
  have hlow : IntKind.u32.wrap (((BitVec.ofInt IntKind.u32.bits (left : Int) &&& BitVec.ofInt IntKind.u32.bits (IntKind.u32.wrap (0 - (left : Int)))).toNat : Nat) : Int) = ((2 ^ tzN left : Nat) : Int) := by
    rw [u32_neg hl0 (by omega), u32_and (by omega) (by omega), show 4294967296 = 2 ^ 32 from rfl, and_neg (n := 32) hl0 (by omega) (by omega)]
  rw [hlow]
  have htz := (tz_bit hl0 (by omega)).1
  obtain ⟨bb, hb1, hb2, hb3, hb4⟩ := best_ex (l := l) (left := left) (by omega) hl0 g2
  have hml2 : ix mr left = most l left := hmi left g1
  have hnn := most_nn l (i := left) (by omega)
  have hle := most_le (l := l) left (by omega)
  have hand : ∀ s : Nat, s < 65536 → (IntKind.u32.wrap (((BitVec.ofInt IntKind.u32.bits (s : Int) &&& BitVec.ofInt IntKind.u32.bits ((2 ^ tzN left : Nat) : Int)).toNat : Nat) : Int) = 0) = (s.testBit (tzN left) = false) := fun s hs => by
    have hlt : 2 ^ tzN left ≤ left := (bit_one htz).le
    rw [u32_and (by omega) (by omega)]
    refine propext ⟨fun h => ?_, fun h => ?_⟩
    · have h2 : s &&& 2 ^ tzN left = 0 := by omega
      have h3 := congrArg (fun x => x.testBit (tzN left)) h2
      simpa using h3
    · rw [show s &&& 2 ^ tzN left = 0 from Nat.eq_of_testBit_eq fun i => by
        rw [Nat.testBit_and, Nat.testBit_two_pow, Nat.zero_testBit]
        by_cases e : tzN left = i
        · subst e; simp [h]
        · simp [e]]
      rfl
  have hLlt : 2 ^ tzN left < 65536 := Nat.lt_of_le_of_lt (bit_one htz).le (by omega)
  generalize hLO : 2 ^ tzN left = LO at *
  refine tr_loop mixed (by kernel_rfl) (fun (y : Nat × Option Nat × Nat) => [(14, .v (.int .u32 (y.1 : Nat))), (13, slB y.2.1 y.2.2), (12, .v (.int .u32 (LO : Nat))), (6, .v (.int .u32 (left : Nat))), (11, .s 3 0 0 out.length oc 1), (7, .s 2 0 0 N N 1), (5, .s 1 0 0 N N 1)])
    (fun y => [rR l, rIO sr N, rIO mr N, oOut 4 out cp oc, oFa out cp, obB y.2.1 y.2.2])
    (fun y => Sub y.1 left ∧ bestS l left left none = bestS l left y.1 y.2.1 ∧ ∀ b, y.2.1 = some b → b < 65536 ∧ (bL b).length ≤ y.2.2 ∧ 0 < y.2.2) (fun y => y.1) (left, none, 0) ⟨Sub.refl _, rfl, fun b h => by cases h⟩ (Mt.wk (rl := [0, 1, 2, 3, 4, 1000]) ⟨by kernel_rfl, ?_, ?_⟩) ?_
  · simp only [push_cast, ↓branch_true, ↓branch_false, Nat.reduceBEq, Nat.reduceAdd, Nat.reduceMul, Nat.reduceSub, Int.reduceToNat, reduceCtorEq, branch_decide, branch_not, branch_beq, branch_bne, slB_none]
  · simp only [push_cast, ↓branch_true, ↓branch_false, Nat.reduceBEq, Nat.reduceAdd, Nat.reduceMul, Nat.reduceSub, Int.reduceToNat, reduceCtorEq, branch_decide, branch_not, branch_beq, branch_bne, hml, hsl, obB_none]
  rintro ⟨s, o, bc⟩ ⟨k1, k2, k3⟩
  simp only at k1 k2 k3
  have hsl2 := k1.le
  have hdl := dif_le left s
  have hdi := u32_andN (show left < 65536 by omega) (show s < 65536 by omega)
  have hsA : s ≤ allN l := by omega
  have hdA : dif left s ≤ allN l := by omega
  have hnxt : ∀ s : Nat, 0 < s → s < 65536 → IntKind.u32.wrap (((BitVec.ofInt IntKind.u32.bits ((s : Int) - 1) &&& BitVec.ofInt IntKind.u32.bits (left : Int)).toNat : Nat) : Int) = (((s - 1) &&& left : Nat) : Int) := fun s h h' => by
    rw [show (s : Int) - 1 = ((s - 1 : Nat) : Int) by omega, u32_and (by omega) (by omega)]
  rcases o with _ | b
  · simp only [push_cast, ↓branch_true, ↓branch_false, Nat.reduceBEq, Nat.reduceAdd, Nat.reduceMul, Nat.reduceSub, Int.reduceToNat, reduceCtorEq, branch_decide, branch_not, branch_beq, branch_bne, hml, hsl, slB_none, obB_none, hand s (by omega), hdi, hsi s hsA, hmi _ hdA, hml2]
    refine ⟨fun hs => ?_, fun hs => ?_⟩
    · obtain rfl : s = 0 := by omega
      rw [hb1] at k2; cases k2
    have hnx := hnxt s (by omega) (by omega)
    have hst := bestS_step (l := l) (left := left) none (show 0 < s by omega)
    have hlt := nxt_lt (s := s) (left := left) (by omega)
    repeat' (with_reducible (first | apply And.intro | intro _))
    all_goals try omega
    any_goals
      refine lpK_normal ((s - 1) &&& left, none, bc) [0, 1, 2, 3, 4, 1000] ⟨fun i hi => by rw [Nat.testBit_and] at hi; simp at hi; exact hi.2, ?_, fun b h => by cases h⟩ hlt (by kernel_rfl) ?_ ?_
      · have hok : okP l left s = false := by simp [okP, *]
        rw [stB, hok, cond_false] at hst
        rw [k2, hst]
      · simp only [push_cast, ↓branch_true, ↓branch_false, Nat.reduceBEq, Nat.reduceAdd, Nat.reduceMul, Nat.reduceSub, Int.reduceToNat, reduceCtorEq, branch_decide, branch_not, branch_beq, branch_bne, slB_none, hnx]
      · simp only [push_cast, ↓branch_true, ↓branch_false, Nat.reduceBEq, Nat.reduceAdd, Nat.reduceMul, Nat.reduceSub, Int.reduceToNat, reduceCtorEq, branch_decide, branch_not, branch_beq, branch_bne, hml, hsl, obB_none]
    all_goals
      have hok : okP l left s = true := by simp [okP, *]
      rw [stB, hok, cond_true] at hst
      refine sp_at (list_sp s (by omega)) [] rfl ?_ ?_ ?_
      · simp only [push_cast, ↓branch_true, ↓branch_false, Nat.reduceBEq, Nat.reduceAdd, Nat.reduceMul, Nat.reduceSub, Int.reduceToNat, reduceCtorEq, branch_decide, branch_not, branch_beq, branch_bne]
      · simp only [push_cast, ↓branch_true, ↓branch_false, Nat.reduceBEq, Nat.reduceAdd, Nat.reduceMul, Nat.reduceSub, Int.reduceToNat, reduceCtorEq, branch_decide, branch_not, branch_beq, branch_bne]
      rintro _ _ ⟨cap, hcap, rfl, rfl⟩
      simp only [push_cast, ↓branch_true, ↓branch_false, Nat.reduceBEq, Nat.reduceAdd, Nat.reduceMul, Nat.reduceSub, Int.reduceToNat, reduceCtorEq, branch_decide, branch_not, branch_beq, branch_bne, hml, hsl]
      repeat (with_reducible refine And.intro (by omega) ?_)
      rw [hnx]
      refine lpK_normal ((s - 1) &&& left, some s, cap) [0, 1, 2, 3, 4, 6] ⟨fun i hi => by rw [Nat.testBit_and] at hi; simp at hi; exact hi.2, ?_, fun b h => ?_⟩ hlt (by kernel_rfl) ?_ ?_
      · rw [k2, hst]; rfl
      · obtain rfl : s = b := by simpa using h
        have := bL_pos (s := s) (by omega) (by omega)
        exact ⟨by omega, hcap, show 0 < cap by omega⟩
      · simp only [push_cast, ↓branch_true, ↓branch_false, Nat.reduceBEq, Nat.reduceAdd, Nat.reduceMul, Nat.reduceSub, Int.reduceToNat, reduceCtorEq, branch_decide, branch_not, branch_beq, branch_bne, slB_some]
      · simp only [push_cast, ↓branch_true, ↓branch_false, Nat.reduceBEq, Nat.reduceAdd, Nat.reduceMul, Nat.reduceSub, Int.reduceToNat, reduceCtorEq, branch_decide, branch_not, branch_beq, branch_bne, hml, hsl, obB_some]
  · simp only [push_cast, ↓branch_true, ↓branch_false, Nat.reduceBEq, Nat.reduceAdd, Nat.reduceMul, Nat.reduceSub, Int.reduceToNat, reduceCtorEq, branch_decide, branch_not, branch_beq, branch_bne, hml, hsl, slB_some, obB_some, hand s (by omega), hdi, hsi s hsA, hmi _ hdA, hml2]
    obtain ⟨hbl, hbc, hbc0⟩ := k3 b rfl
    refine ⟨fun hs => ?_, fun hs => ?_⟩
    · obtain rfl : s = 0 := by omega
      rw [bestS_zero, hb1] at k2
      obtain rfl : bb = b := by simpa using k2
      refine ⟨by omega, by omega, Or.inr ?_⟩
      repeat (with_reducible refine And.intro (by omega) ?_)
      intro oc2 hoc2
      repeat (with_reducible refine And.intro (by omega) ?_)
      clear hand hnxt hdi hlow
      have hok1 : sumS l bb = 0 := by
        simp only [okP, Bool.and_eq_true, decide_eq_true_eq] at hb2
        exact hb2.2.1
      have hsd := sumS_dif (l := l) (show left < 65536 by omega) hb3
      have hps := partS_step (l := l) (show left < 65536 by omega) hl0 hb1
      have hdlt := dif_lt (show left < 65536 by omega) hb3 hb4
      have hbA : bb < 65536 := hbl
      have hall2 := difB_all (left := left) (by omega) hbA
      have hbits := bits_len bb
      have hbL := bL_len bb
      refine tr_loop mixed (by kernel_rfl) (fun (j : Nat) => [(133, .v (.int .i64 j)), (132, .v (.int .i64 (bL bb).length)), (131, .s 4 out.length 0 (bL bb).length bc 1), (6, .v (.int .u32 (difB left ((bitsL bb).take j) : Nat))), (11, .s 3 0 0 (out ++ [bL bb]).length oc2 1), (7, .s 2 0 0 N N 1), (5, .s 1 0 0 N N 1)])
        (fun _ => [rR l, rIO sr N, rIO mr N, oOut 4 (out ++ [bL bb]) (fun q => bif q == out.length then bc else cp q) oc2, oFa (out ++ [bL bb]) (fun q => bif q == out.length then bc else cp q)])
        (fun j => j ≤ (bL bb).length ∧ difB left ((bitsL bb).take j) < 65536) (fun j => (bL bb).length - j) 0 ⟨Nat.zero_le _, show difB left [] < 65536 from (by show left < 65536; omega)⟩
        ((swk_place 4 out.length 5 (show 1 ≤ 5 by omega) (show 1 ≤ 4 by omega) (by omega) ?_).trans (Mt.wk (rl := [0, 1, 2, 7, 4]) ⟨by kernel_rfl, ?_, ?_⟩)) ?_
      · simp only [push_cast, ↓branch_true, ↓branch_false, Nat.reduceBEq, Nat.reduceAdd, Nat.reduceMul, Nat.reduceSub, Int.reduceToNat, reduceCtorEq, branch_decide, branch_not, branch_beq, branch_bne]
        try omega
      · simp only [push_cast, ↓branch_true, ↓branch_false, Nat.reduceBEq, Nat.reduceAdd, Nat.reduceMul, Nat.reduceSub, Int.reduceToNat, reduceCtorEq, branch_decide, branch_not, branch_beq, branch_bne, List.length_append]
        try rfl
      · simp only [push_cast, ↓branch_true, ↓branch_false, Nat.reduceBEq, Nat.reduceAdd, Nat.reduceMul, Nat.reduceSub, Int.reduceToNat, reduceCtorEq, branch_decide, branch_not, branch_beq, branch_bne, List.length_append, hml, hsl]
        refine ⟨fun x hx q hq => ?_, fun q hq => ?_⟩
        · by_cases eq : q = out.length
          · subst eq
            have hb2 : decide (out.length < out.length) = false := by simp
            simp only [push_cast, ↓branch_true, ↓branch_false, Nat.reduceBEq, Nat.reduceAdd, Nat.reduceMul, Nat.reduceSub, Int.reduceToNat, reduceCtorEq, branch_decide, branch_not, branch_beq, branch_bne, ix_app_last, hb2]
          · have hb : (q == out.length) = false := by simpa using eq
            have hb2 : decide (q < out.length) = true := by simp; omega
            simp only [push_cast, ↓branch_true, ↓branch_false, Nat.reduceBEq, Nat.reduceAdd, Nat.reduceMul, Nat.reduceSub, Int.reduceToNat, reduceCtorEq, branch_decide, branch_not, branch_beq, branch_bne, ix_app_ne eq, hb, hb2]
        · by_cases eq : q = out.length
          · subst eq
            simp only [push_cast, ↓branch_true, ↓branch_false, Nat.reduceBEq, Nat.reduceAdd, Nat.reduceMul, Nat.reduceSub, Int.reduceToNat, reduceCtorEq, branch_decide, branch_not, branch_beq, branch_bne, ix_app_last]
          · have hb : (q == out.length) = false := by simpa using eq
            simp only [push_cast, ↓branch_true, ↓branch_false, Nat.reduceBEq, Nat.reduceAdd, Nat.reduceMul, Nat.reduceSub, Int.reduceToNat, reduceCtorEq, branch_decide, branch_not, branch_beq, branch_bne, ix_app_ne eq, hb]
      rintro j ⟨j1, j2⟩
      have hlen1 : (out ++ [bL bb]).length = out.length + 1 := by simp
      simp only [push_cast, ↓branch_true, ↓branch_false, Nat.reduceBEq, Nat.reduceAdd, Nat.reduceMul, Nat.reduceSub, Int.reduceToNat, reduceCtorEq, branch_decide, branch_not, branch_beq, branch_bne, hlen1, hml, hsl, ix_app_last]
      refine ⟨fun hj => ?_, fun hj => ?_⟩
      · have hjn : j < (bL bb).length := by omega
        obtain ⟨k, q1, q2, q3, q4, q5⟩ := bL_ix hjn hbA
        have hk16 : 2 ^ k < 2 ^ 16 := Nat.pow_lt_pow_right (by decide) q3
        have hsu := difB_succ (left := left) q4
        rw [q5] at hsu
        have e5 : (1 : Int) * 2 ^ min k IntKind.u32.bits = ((2 ^ k : Nat) : Int) := by
          rw [show IntKind.u32.bits = 32 from rfl, Nat.min_eq_left (by omega)]
          push_cast
          omega
        rw [q1]
        simp only [Int.toNat_natCast, e5, u32_andN j2 hk16]
        have hdl2 := dif_le (difB left ((bitsL bb).take j)) (2 ^ k)
        generalize 2 ^ k = K at *
        repeat (with_reducible refine And.intro (by omega) ?_)
        refine lpK_normal (j + 1) [0, 1, 2, 3, 4] ⟨by omega, by rw [hsu]; omega⟩ (by omega) (by kernel_rfl) ?_ ?_
        · simp only [push_cast, ↓branch_true, ↓branch_false, Nat.reduceBEq, Nat.reduceAdd, Nat.reduceMul, Nat.reduceSub, Int.reduceToNat, reduceCtorEq, branch_decide, branch_not, branch_beq, branch_bne, hsu]
        · simp only [push_cast, ↓branch_true, ↓branch_false, Nat.reduceBEq, Nat.reduceAdd, Nat.reduceMul, Nat.reduceSub, Int.reduceToNat, reduceCtorEq, branch_decide, branch_not, branch_beq, branch_bne, hlen1, hml, hsl]
      · obtain rfl : j = (bL bb).length := by omega
        rw [hbL, List.take_length, hall2]
        refine lpK_normal (out ++ [bL bb], dif left bb, oc2, fun q => bif q == out.length then bc else cp q) [0, 1, 2, 3, 4] ⟨by simp only; omega, by simp only; omega, ?_, by simp only [hlen1]; omega, by simp only [hlen1]; omega, fun k hk => ?_⟩ (by simp only; omega) (by kernel_rfl) ?_ ?_
        · simp only
          rw [List.append_assoc, ← g3, hps]
          rfl
        · simp only [hlen1] at hk ⊢
          have : (k == out.length) = false := by simp; omega
          rw [this]
          exact g6 k (by omega)
        · simp only [push_cast, ↓branch_true, ↓branch_false, Nat.reduceBEq, Nat.reduceAdd, Nat.reduceMul, Nat.reduceSub, Int.reduceToNat, reduceCtorEq, branch_decide, branch_not, branch_beq, branch_bne, hlen1]
        · simp only [push_cast, ↓branch_true, ↓branch_false, Nat.reduceBEq, Nat.reduceAdd, Nat.reduceMul, Nat.reduceSub, Int.reduceToNat, reduceCtorEq, branch_decide, branch_not, branch_beq, branch_bne, hlen1, hml, hsl]
    have hnx := hnxt s (by omega) (by omega)
    have hst := bestS_step (l := l) (left := left) (some b) (show 0 < s by omega)
    have hlt := nxt_lt (s := s) (left := left) (by omega)
    repeat' (with_reducible (first | apply And.intro | intro _))
    all_goals try omega
    any_goals
      refine lpK_normal ((s - 1) &&& left, some b, bc) [0, 1, 2, 3, 4, 5] ⟨fun i hi => by rw [Nat.testBit_and] at hi; simp at hi; exact hi.2, ?_, k3⟩ hlt (by kernel_rfl) ?_ ?_
      · have hok : okP l left s = false := by simp [okP, *]
        rw [stB, hok, cond_false] at hst
        rw [k2, hst]
      · simp only [push_cast, ↓branch_true, ↓branch_false, Nat.reduceBEq, Nat.reduceAdd, Nat.reduceMul, Nat.reduceSub, Int.reduceToNat, reduceCtorEq, branch_decide, branch_not, branch_beq, branch_bne, slB_some, hnx]
      · simp only [push_cast, ↓branch_true, ↓branch_false, Nat.reduceBEq, Nat.reduceAdd, Nat.reduceMul, Nat.reduceSub, Int.reduceToNat, reduceCtorEq, branch_decide, branch_not, branch_beq, branch_bne, hml, hsl, obB_some]
    all_goals
      have hok : okP l left s = true := by simp [okP, *]
      rw [stB, hok, cond_true, upB] at hst
      try simp only at hst
      refine sp_at (list_sp s (by omega)) [] rfl ?_ ?_ ?_
      · simp only [push_cast, ↓branch_true, ↓branch_false, Nat.reduceBEq, Nat.reduceAdd, Nat.reduceMul, Nat.reduceSub, Int.reduceToNat, reduceCtorEq, branch_decide, branch_not, branch_beq, branch_bne]
      · simp only [push_cast, ↓branch_true, ↓branch_false, Nat.reduceBEq, Nat.reduceAdd, Nat.reduceMul, Nat.reduceSub, Int.reduceToNat, reduceCtorEq, branch_decide, branch_not, branch_beq, branch_bne]
      rintro _ _ ⟨cap, hcap, rfl, rfl⟩
      have hb1 := bits_len s
      have hb2 := bits_len b
      have hb3 := bL_len s
      have hb4 := bL_len b
      simp only [push_cast, ↓branch_true, ↓branch_false, Nat.reduceBEq, Nat.reduceAdd, Nat.reduceMul, Nat.reduceSub, Int.reduceToNat, reduceCtorEq, branch_decide, branch_not, branch_beq, branch_bne, hml, hsl]
      repeat (with_reducible refine And.intro (by omega) ?_)
      intro b1 hb1
      obtain rfl := hb1 (by omega)
      simp only [push_cast, ↓branch_true, ↓branch_false, Nat.reduceBEq, Nat.reduceAdd, Nat.reduceMul, Nat.reduceSub, Int.reduceToNat, reduceCtorEq, branch_decide, branch_not, branch_beq, branch_bne]
      refine sp_call (compare_pu (bL s) (bL b) cap bc (by omega) (by omega)) rfl [6, 5] rfl (by simp only [push_cast, ↓branch_true, ↓branch_false, Nat.reduceBEq, Nat.reduceAdd, Nat.reduceMul, Nat.reduceSub, Int.reduceToNat, reduceCtorEq, branch_decide, branch_not, branch_beq, branch_bne]) (by simp only [push_cast, ↓branch_true, ↓branch_false, Nat.reduceBEq, Nat.reduceAdd, Nat.reduceMul, Nat.reduceSub, Int.reduceToNat, reduceCtorEq, branch_decide, branch_not, branch_beq, branch_bne]) ?_
      simp only [push_cast, ↓branch_true, ↓branch_false, Nat.reduceBEq, Nat.reduceAdd, Nat.reduceMul, Nat.reduceSub, Int.reduceToNat, reduceCtorEq, branch_decide, branch_not, branch_beq, branch_bne]
      have hcl := cmpI_lex (bL s) (bL b)
      have hsp := bL_pos (s := s) (by omega) (by omega)
      refine ⟨fun hc => ?_, fun hc => ?_⟩
      · rw [← hcl, decide_eq_true hc, cond_true] at hst
        repeat (with_reducible refine And.intro (by omega) ?_)
        rw [hnx]
        refine lpK_normal ((s - 1) &&& left, some s, cap) [0, 1, 2, 3, 4, 6] ⟨fun i hi => by rw [Nat.testBit_and] at hi; simp at hi; exact hi.2, ?_, fun b h => ?_⟩ hlt (by kernel_rfl) ?_ ?_
        · rw [k2, hst]
        · obtain rfl : s = b := by simpa using h
          exact ⟨by omega, hcap, show 0 < cap by omega⟩
        · simp only [push_cast, ↓branch_true, ↓branch_false, Nat.reduceBEq, Nat.reduceAdd, Nat.reduceMul, Nat.reduceSub, Int.reduceToNat, reduceCtorEq, branch_decide, branch_not, branch_beq, branch_bne, slB_some]
        · simp only [push_cast, ↓branch_true, ↓branch_false, Nat.reduceBEq, Nat.reduceAdd, Nat.reduceMul, Nat.reduceSub, Int.reduceToNat, reduceCtorEq, branch_decide, branch_not, branch_beq, branch_bne, hml, hsl, obB_some]
      · rw [← hcl, decide_eq_false hc, cond_false] at hst
        repeat (with_reducible refine And.intro (by omega) ?_)
        rw [hnx]
        refine lpK_normal ((s - 1) &&& left, some b, bc) [0, 1, 2, 3, 4, 5] ⟨fun i hi => by rw [Nat.testBit_and] at hi; simp at hi; exact hi.2, ?_, k3⟩ hlt (by kernel_rfl) ?_ ?_
        · rw [k2, hst]
        · simp only [push_cast, ↓branch_true, ↓branch_false, Nat.reduceBEq, Nat.reduceAdd, Nat.reduceMul, Nat.reduceSub, Int.reduceToNat, reduceCtorEq, branch_decide, branch_not, branch_beq, branch_bne, slB_some]
        · simp only [push_cast, ↓branch_true, ↓branch_false, Nat.reduceBEq, Nat.reduceAdd, Nat.reduceMul, Nat.reduceSub, Int.reduceToNat, reduceCtorEq, branch_decide, branch_not, branch_beq, branch_bne, hml, hsl, obB_some]
end Go.Proofs.YtapbhppfecfobaaDoor
