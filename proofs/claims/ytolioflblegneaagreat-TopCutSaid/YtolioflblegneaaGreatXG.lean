/- box.Covers for one box. solid: Valid, Member, Contains for the example's member; cover.held. cover: the core of a leg and how far it may grow. cover.Check on the example: no finding. -/
import Derived.Test.YtolioflblegneaaGreatXB
set_option maxRecDepth 100000
set_option linter.unusedSimpArgs false
set_option linter.unusedVariables false
namespace Go.Proofs.YtolioflblegneaaGreat
open Go.RowKit
def cntB (a b : Bx) : Bool := decide (a.lo.x ≤ b.lo.x ∧ b.hi.x ≤ a.hi.x) && (decide (a.lo.y ≤ b.lo.y ∧ b.hi.y ≤ a.hi.y) && decide (a.lo.z ≤ b.lo.z ∧ b.hi.z ≤ a.hi.z))
theorem cnt_iff (a b : Bx) : cntB a b = true ↔ (a.lo.x ≤ b.lo.x ∧ b.hi.x ≤ a.hi.x) ∧ (a.lo.y ≤ b.lo.y ∧ b.hi.y ≤ a.hi.y) ∧ (a.lo.z ≤ b.lo.z ∧ b.hi.z ≤ a.hi.z) := by
  simp only [cntB, Bool.and_eq_true, decide_eq_true_eq]
theorem cnt_no {a b : Bx} (h : ¬ ((a.lo.x ≤ b.lo.x ∧ b.hi.x ≤ a.hi.x) ∧ (a.lo.y ≤ b.lo.y ∧ b.hi.y ≤ a.hi.y) ∧ (a.lo.z ≤ b.lo.z ∧ b.hi.z ≤ a.hi.z))) : cntB a b = false := by
  cases e : cntB a b with
  | false => rfl
  | true => exact absurd ((cnt_iff a b).1 e) h
set_option maxHeartbeats 4000000 in
theorem cont_pu (a b : Bx) : Pu Tryz.prog 237 [.a (cX a), .a (cX b)] [] (.v (.bool (cntB a b))) := by
  refine pu_of_ex true [] mixed Tryz.call237 Tryz.func237 rfl Tryz.ntmps237 Tryz.results237 (by decide +kernel) rfl rfl rfl ?_
  refine sxg ?_
  try with_reducible exact trivial
  refine tr_un mixed (by kernel_rfl) ?_
  refine sxg ?_
  try with_reducible exact trivial
  refine sp_c (ends0_pu a) rfl [] ?_
  refine sxg ?_
  try with_reducible exact trivial
  refine sp_c (ends0_pu b) rfl [] ?_
  refine sxg ?_
  try with_reducible exact trivial
  refine ⟨fun h => by rw [cnt_no (by omega)], fun h0 => ⟨fun h => by rw [cnt_no (by omega)], fun g0 => ?_⟩⟩
  refine tl_un mixed (by kernel_rfl) ?_
  refine sxg ?_
  try with_reducible exact trivial
  refine sp_c (ends1_pu a) rfl [] ?_
  refine sxg ?_
  try with_reducible exact trivial
  refine sp_c (ends1_pu b) rfl [] ?_
  refine sxg ?_
  try with_reducible exact trivial
  refine ⟨fun h => by rw [cnt_no (by omega)], fun h1 => ⟨fun h => by rw [cnt_no (by omega)], fun g1 => ?_⟩⟩
  refine tl_un mixed (by kernel_rfl) ?_
  refine sxg ?_
  try with_reducible exact trivial
  refine sp_c (ends2_pu a) rfl [] ?_
  refine sxg ?_
  try with_reducible exact trivial
  refine sp_c (ends2_pu b) rfl [] ?_
  refine sxg ?_
  try with_reducible exact trivial
  refine ⟨fun h => by rw [cnt_no (by omega)], fun h2 => ⟨fun h => by rw [cnt_no (by omega)], fun g2 => ?_⟩⟩
  refine tl_un mixed (by kernel_rfl) ?_
  refine sxg ?_
  try with_reducible exact trivial
  rw [(cnt_iff a b).2 (by omega)]
def rBx (b : Bx) : Ob := ⟨131, true, .st (cX b)⟩
attribute [push_cast] rBx
theorem ccl1_pu (a b : Bx) (l : List Bx) : Pu Tryz.prog 236 [.a (cX a), .p 1 0 0] [rBxs l, rBx b] (.v (.bool (cntB a b))) := by
  refine pu_of_ex true [] mixed Tryz.call236 Tryz.func236 rfl Tryz.ntmps236 Tryz.results236 (by decide +kernel) rfl rfl rfl ?_
  refine sxg ?_
  try with_reducible exact trivial
  refine sp_c (cont_pu a b) rfl [] ?_
  refine sxg ?_
  try with_reducible exact trivial
def covB (b : Bx) : Prop := b.lo.x < b.hi.x ∧ b.lo.y < b.hi.y ∧ b.lo.z < b.hi.z
set_option maxHeartbeats 8000000 in
theorem covers1_pu (b : Bx) (c : Nat) (hv : vxB b = true) (hc : covB b) (hi : 0 ≤ b.lo.x ∧ b.hi.x ≤ 400 ∧ 0 ≤ b.lo.y ∧ b.hi.y ≤ 200 ∧ 0 ≤ b.lo.z ∧ b.hi.z ≤ 200) : Pu Tryz.prog 232 [.s 0 0 0 1 c 6, .a (cX b)] [rBxs [bM]] (.t [.v (.bool true), .v (.int .i64 0)]) := by
  have ha := ball_pu [bM] c (by decide)
  rw [show List.all [bM] vxB = true by decide +kernel] at ha
  have hb := bvalid_pu b
  rw [hv] at hb
  refine pu_of_ex true [] mixed Tryz.call232 Tryz.func232 rfl Tryz.ntmps232 Tryz.results232 (by decide +kernel) rfl rfl rfl ?_
  refine sxg ?_
  try with_reducible exact trivial
  refine sp_c (ha) rfl [0] ?_
  refine sxg ?_
  try with_reducible exact trivial
  refine sp_c (hb) rfl [] ?_
  refine sxg ?_
  try with_reducible exact trivial
  refine sp_at (parts_sp b 0 c (by decide) hc.1) [0] (by kernel_rfl) ?_ ?_ ?_
  · refine sxg ?_
    try with_reducible exact trivial
  · refine sxg ?_
    try with_reducible exact trivial
  rintro _ _ ⟨nx, gx, capx, hx, ax, ex, rfl, rfl⟩
  obtain ⟨rfl, dx⟩ := ex (by show 0 ≤ b.lo.x ∧ b.hi.x ≤ _; exact ⟨by omega, by show b.hi.x ≤ 400; omega⟩)
  simp only [at0] at ax dx
  refine sxg ?_
  try with_reducible exact trivial
  refine tr_un mixed (by kernel_rfl) ?_
  refine sxg ?_
  try with_reducible exact trivial
  refine sp_at (parts_sp b 1 c (by decide) hc.2.1) [0] (by kernel_rfl) ?_ ?_ ?_
  · refine sxg ?_
    try with_reducible exact trivial
  · refine sxg ?_
    try with_reducible exact trivial
  rintro _ _ ⟨ny, gy, capy, hy, ay, ey, rfl, rfl⟩
  obtain ⟨rfl, dy⟩ := ey (by show 0 ≤ b.lo.y ∧ b.hi.y ≤ _; exact ⟨by omega, by show b.hi.y ≤ 200; omega⟩)
  simp only [at1] at ay dy
  refine sxg ?_
  try with_reducible exact trivial
  refine tr_un mixed (by kernel_rfl) ?_
  refine sxg ?_
  try with_reducible exact trivial
  refine sp_at (parts_sp b 2 c (by decide) hc.2.2) [0] (by kernel_rfl) ?_ ?_ ?_
  · refine sxg ?_
    try with_reducible exact trivial
  · refine sxg ?_
    try with_reducible exact trivial
  rintro _ _ ⟨nz, gz, capz, hz, az, ez, rfl, rfl⟩
  obtain ⟨rfl, dz⟩ := ez (by show 0 ≤ b.lo.z ∧ b.hi.z ≤ _; exact ⟨by omega, by show b.hi.z ≤ 200; omega⟩)
  simp only [at2] at az dz
  refine sxg ?_
  try with_reducible exact trivial
  refine tr_un mixed (by kernel_rfl) ?_
  refine sxg ?_
  try with_reducible exact trivial
  simp only [ax, ay, az, dx, dy, dz]
  have hany : List.any [bM] (fun a => cntB a b) = true := by
    rw [List.any_cons, (cnt_iff bM b).2 (by simp only [bM]; omega)]; rfl
  have hcc := containsBx_pu [bM] c 236 [] [.p 1 0 0] [rBx b] (fun a => cntB a b) rfl (by decide) (fun a _ => ccl1_pu a b [bM])
  rw [hany] at hcc
  refine sp_call hcc rfl [0, 8] rfl ?_ ?_ ?_
  · refine sxg ?_
    try with_reducible exact trivial
  · refine sxg ?_
    try with_reducible exact trivial
  refine sxg ?_
  try with_reducible exact trivial
  refine tl_un mixed (by kernel_rfl) ?_
  refine sxg ?_
  try with_reducible exact trivial
  refine tl_un mixed (by kernel_rfl) ?_
  refine sxg ?_
  try with_reducible exact trivial
  refine tl_un mixed (by kernel_rfl) ?_
  refine sxg ?_
  try with_reducible exact trivial
set_option maxHeartbeats 8000000 in
theorem covers0_pu (b : Bx) (c : Nat) (hv : vxB b = true) (hc : covB b) (hi : b.lo.x < 0) : Pu Tryz.prog 232 [.s 0 0 0 1 c 6, .a (cX b)] [rBxs [bM]] (.t [.v (.bool false), .v (.int .i64 0)]) := by
  have ha := ball_pu [bM] c (by decide)
  rw [show List.all [bM] vxB = true by decide +kernel] at ha
  have hb := bvalid_pu b
  rw [hv] at hb
  refine pu_of_ex true [] mixed Tryz.call232 Tryz.func232 rfl Tryz.ntmps232 Tryz.results232 (by decide +kernel) rfl rfl rfl ?_
  refine sxg ?_
  try with_reducible exact trivial
  refine sp_c (ha) rfl [0] ?_
  refine sxg ?_
  try with_reducible exact trivial
  refine sp_c (hb) rfl [] ?_
  refine sxg ?_
  try with_reducible exact trivial
  refine sp_at (parts_sp b 0 c (by decide) hc.1) [0] (by kernel_rfl) ?_ ?_ ?_
  · refine sxg ?_
    try with_reducible exact trivial
  · refine sxg ?_
    try with_reducible exact trivial
  rintro _ _ ⟨nx, gx, capx, hx, ax, ex, rfl, rfl⟩
  simp only [at0] at ax
  refine sxg ?_
  try with_reducible exact trivial
  refine tr_un mixed (by kernel_rfl) ?_
  refine sxg ?_
  try with_reducible exact trivial
  refine ⟨fun _ => ?_, fun h => by omega⟩
  repeat (with_reducible refine And.intro (by omega) ?_)
  refine sp_at (parts_sp b 1 c (by decide) hc.2.1) [0] (by kernel_rfl) ?_ ?_ ?_
  · refine sxg ?_
    try with_reducible exact trivial
  · refine sxg ?_
    try with_reducible exact trivial
  rintro _ _ ⟨ny, gy, capy, hy, ay, ey, rfl, rfl⟩
  simp only [at1] at ay
  refine sxg ?_
  try with_reducible exact trivial
  refine tr_un mixed (by kernel_rfl) ?_
  refine sxg ?_
  try with_reducible exact trivial
  refine ⟨fun _ => ?_, fun h => by omega⟩
  repeat (with_reducible refine And.intro (by omega) ?_)
  refine sp_at (parts_sp b 2 c (by decide) hc.2.2) [0] (by kernel_rfl) ?_ ?_ ?_
  · refine sxg ?_
    try with_reducible exact trivial
  · refine sxg ?_
    try with_reducible exact trivial
  rintro _ _ ⟨nz, gz, capz, hz, az, ez, rfl, rfl⟩
  simp only [at2] at az
  refine sxg ?_
  try with_reducible exact trivial
  refine tr_un mixed (by kernel_rfl) ?_
  refine sxg ?_
  try with_reducible exact trivial
  refine ⟨fun _ => ?_, fun h => by omega⟩
  repeat (with_reducible refine And.intro (by omega) ?_)
  obtain ⟨q, hq⟩ : ∃ q : Bx, q = ⟨⟨(gx 0).1, (gy 0).1, (gz 0).1⟩, ⟨(gx 0).2, (gy 0).2, (gz 0).2⟩⟩ := ⟨_, rfl⟩
  have hany : List.any [bM] (fun a => cntB a q) = false := by
    rw [List.any_cons, cnt_no (by rw [hq]; simp only [bM, ax]; omega)]; rfl
  have hcc := containsBx_pu [bM] c 236 [] [.p 1 0 0] [rBx q] (fun a => cntB a q) rfl (by decide) (fun a _ => ccl1_pu a q [bM])
  rw [hany, hq] at hcc
  refine sp_call hcc rfl [0, 8] rfl ?_ ?_ ?_
  · refine sxg ?_
    try with_reducible exact trivial
  · refine sxg ?_
    try with_reducible exact trivial
  refine sxg ?_
  try with_reducible exact trivial
end Go.Proofs.YtolioflblegneaaGreat
namespace Go.Proofs.YtolioflblegneaaGreat
open Go.RowKit
theorem thick_pu : Pu Tryz.prog 195 [.a (cX bM)] [] (.v (.bool true)) := by
  have hb := bvalid_pu bM
  rw [show vxB bM = true by decide +kernel] at hb
  refine pu_of_ex true [] mixed Tryz.call195 Tryz.func195 rfl Tryz.ntmps195 Tryz.results195 (by decide +kernel) rfl rfl rfl ?_
  refine sxg ?_
  try with_reducible exact trivial
  refine sp_c (hb) rfl [] ?_
  refine sxg ?_
  try with_reducible exact trivial
  simp [bM]
theorem thcl_pu : Pu Tryz.prog 194 [.a (cX bM)] [] (.v (.bool false)) := by
  refine pu_of_ex true [] mixed Tryz.call194 Tryz.func194 rfl Tryz.ntmps194 Tryz.results194 (by decide +kernel) rfl rfl rfl ?_
  refine sxg ?_
  try with_reducible exact trivial
  refine sp_c (thick_pu) rfl [] ?_
  refine sxg ?_
  try with_reducible exact trivial
theorem nilc_pu (g : FuncId) (fs cs : List SV) (H : List Ob) (hro : roB H = true) : Pu Tryz.prog 196 [.v (.slice none 0 0), .f (.func g) fs cs] H (.v (.bool false)) := by
  have hi : Pu Tryz.prog 214 [.v (.slice none 0 0), .f (.func g) fs cs] H (.v (.int .i64 (-1))) := by
    refine pu_of_ex true [] mixed Tryz.call214 Tryz.func214 rfl Tryz.ntmps214 Tryz.results214 (by decide +kernel) rfl hro rfl ?_
    refine sxg ?_
    try with_reducible exact trivial
    refine tr_un mixed (by kernel_rfl) ?_
    refine sxg ?_
    try with_reducible exact trivial
  refine pu_of_ex true [] mixed Tryz.call196 Tryz.func196 rfl Tryz.ntmps196 Tryz.results196 (by decide +kernel) rfl hro rfl ?_
  refine sxg ?_
  try with_reducible exact trivial
  refine sp_pu (by simpa only [push_cast] using hi) ?_
  refine sxg ?_
  try with_reducible exact trivial
def cSol (c : Nat) : List SV := [.s 0 0 0 1 c 6, .v (.slice none 0 0)]
def sM : ByteArray := ⟨#[109]⟩
def cMem (c : Nat) : List SV := [.v (.string sM), .s 0 0 0 1 c 6, .v (.slice none 0 0), .v (.int .i64 30), .v (.int .i64 16), .v (.int .i64 50)]
attribute [push_cast] cSol cMem
theorem tany_pu (c : Nat) : Pu Tryz.prog 196 [.s 0 0 0 1 c 6, .f (.func 194) [] []] [rBxs [bM]] (.v (.bool false)) := by
  refine containsBx_pu [bM] c 194 [] [] [] (fun _ => false) rfl (by decide) ?_
  intro x hx
  have e : x = bM := List.mem_singleton.1 hx
  subst e
  exact pu_a thcl_pu rfl [rBxs [bM]]
theorem solid_pu (c : Nat) : Pu Tryz.prog 159 [.a (cSol c)] [rBxs [bM]] (.v (.bool true)) := by
  refine pu_of_ex true [] mixed Tryz.call159 Tryz.func159 rfl Tryz.ntmps159 Tryz.results159 (by decide +kernel) rfl rfl rfl ?_
  refine sxg ?_
  try with_reducible exact trivial
  refine sp_c (tany_pu c) rfl [0] ?_
  refine sxg ?_
  try with_reducible exact trivial
  refine sp_c (nilc_pu 194 [] [] [] rfl) rfl [] ?_
  refine sxg ?_
  try with_reducible exact trivial
theorem contains1_pu (b : Bx) (c : Nat) (hv : vxB b = true) (hc : covB b) (hi : 0 ≤ b.lo.x ∧ b.hi.x ≤ 400 ∧ 0 ≤ b.lo.y ∧ b.hi.y ≤ 200 ∧ 0 ≤ b.lo.z ∧ b.hi.z ≤ 200) : Pu Tryz.prog 223 [.a (cSol c), .a (cX b)] [rBxs [bM]] (.t [.v (.bool true), .v (.int .i64 0)]) := by
  have hb := bvalid_pu b
  rw [hv] at hb
  refine pu_of_ex true [] mixed Tryz.call223 Tryz.func223 rfl Tryz.ntmps223 Tryz.results223 (by decide +kernel) rfl rfl rfl ?_
  refine sxg ?_
  try with_reducible exact trivial
  refine sp_c (solid_pu c) rfl [0] ?_
  refine sxg ?_
  try with_reducible exact trivial
  refine sp_c (hb) rfl [] ?_
  refine sxg ?_
  try with_reducible exact trivial
  refine sp_c (nilc_pu 230 [] [.p 0 0 0] [rBx b] rfl) rfl [2] ?_
  refine sxg ?_
  try with_reducible exact trivial
  refine sp_c (covers1_pu b c hv hc hi) rfl [0] ?_
  refine sxg ?_
  try with_reducible exact trivial
theorem contains0_pu (b : Bx) (c : Nat) (hv : vxB b = true) (hc : covB b) (hi : b.lo.x < 0) : Pu Tryz.prog 223 [.a (cSol c), .a (cX b)] [rBxs [bM]] (.t [.v (.bool false), .v (.int .i64 0)]) := by
  have hb := bvalid_pu b
  rw [hv] at hb
  refine pu_of_ex true [] mixed Tryz.call223 Tryz.func223 rfl Tryz.ntmps223 Tryz.results223 (by decide +kernel) rfl rfl rfl ?_
  refine sxg ?_
  try with_reducible exact trivial
  refine sp_c (solid_pu c) rfl [0] ?_
  refine sxg ?_
  try with_reducible exact trivial
  refine sp_c (hb) rfl [] ?_
  refine sxg ?_
  try with_reducible exact trivial
  refine sp_c (nilc_pu 230 [] [.p 0 0 0] [rBx b] rfl) rfl [2] ?_
  refine sxg ?_
  try with_reducible exact trivial
  refine sp_c (covers0_pu b c hv hc hi) rfl [0] ?_
  refine sxg ?_
  try with_reducible exact trivial
theorem held1_pu (b : Bx) (c : Nat) (hv : vxB b = true) (hc : covB b) (hi : 0 ≤ b.lo.x ∧ b.hi.x ≤ 400 ∧ 0 ≤ b.lo.y ∧ b.hi.y ≤ 200 ∧ 0 ≤ b.lo.z ∧ b.hi.z ≤ 200) : Pu Tryz.prog 204 [.a (cMem c), .a (cX b)] [rBxs [bM]] (.v (.bool true)) := by
  have hb := bvalid_pu b
  rw [hv] at hb
  refine pu_of_ex true [] mixed Tryz.call204 Tryz.func204 rfl Tryz.ntmps204 Tryz.results204 (by decide +kernel) rfl rfl rfl ?_
  refine sxg ?_
  try with_reducible exact trivial
  refine sp_c (hb) rfl [] ?_
  refine sxg ?_
  try with_reducible exact trivial
  refine sp_c (contains1_pu b c hv hc hi) rfl [0] ?_
  refine sxg ?_
  try with_reducible exact trivial
theorem held0_pu (b : Bx) (c : Nat) (h : vxB b = false ∨ (vxB b = true ∧ covB b ∧ b.lo.x < 0)) : Pu Tryz.prog 204 [.a (cMem c), .a (cX b)] [rBxs [bM]] (.v (.bool false)) := by
  have hb := bvalid_pu b
  rcases h with hv | ⟨hv, hc, hi⟩
  · rw [hv] at hb
    refine pu_of_ex true [] mixed Tryz.call204 Tryz.func204 rfl Tryz.ntmps204 Tryz.results204 (by decide +kernel) rfl rfl rfl ?_
    refine sxg ?_
    try with_reducible exact trivial
    refine sp_c (hb) rfl [] ?_
    refine sxg ?_
    try with_reducible exact trivial
  · rw [hv] at hb
    refine pu_of_ex true [] mixed Tryz.call204 Tryz.func204 rfl Tryz.ntmps204 Tryz.results204 (by decide +kernel) rfl rfl rfl ?_
    refine sxg ?_
    try with_reducible exact trivial
    refine sp_c (hb) rfl [] ?_
    refine sxg ?_
    try with_reducible exact trivial
    refine sp_c (contains0_pu b c hv hc hi) rfl [0] ?_
    refine sxg ?_
    try with_reducible exact trivial
theorem mcl_pu (n lo hi : Int) (h : lo ≤ n ∧ n ≤ hi) : Pu Tryz.prog 158 [.v (.int .i64 n), .v (.int .i64 lo), .v (.int .i64 hi)] [] (.v (.bool true)) := by
  refine pu_of_ex true [] mixed Tryz.call158 Tryz.func158 rfl Tryz.ntmps158 Tryz.results158 (by decide +kernel) rfl rfl rfl ?_
  refine sxg ?_
  try with_reducible exact trivial
  simp; omega
theorem member_pu (c : Nat) : Pu Tryz.prog 116 [.a (cMem c)] [rBxs [bM]] (.v (.bool true)) := by
  have hn := name_pu sM (by decide)
  rw [show nameB sM = true by decide +kernel] at hn
  refine pu_of_ex true [] mixed Tryz.call116 Tryz.func116 rfl Tryz.ntmps116 Tryz.results116 (by decide +kernel) rfl rfl rfl ?_
  refine sxg ?_
  try with_reducible exact trivial
  refine sp_c (hn) rfl [] ?_
  refine sxg ?_
  try with_reducible exact trivial
  refine sp_c (solid_pu c) rfl [0] ?_
  refine sxg ?_
  try with_reducible exact trivial
  refine sp_c (mcl_pu 30 0 200 (by decide)) rfl [] ?_
  refine sxg ?_
  try with_reducible exact trivial
  refine sp_c (mcl_pu 16 1 100 (by decide)) rfl [] ?_
  refine sxg ?_
  try with_reducible exact trivial
  refine sp_c (mcl_pu 50 1 200 (by decide)) rfl [] ?_
  refine sxg ?_
  try with_reducible exact trivial
end Go.Proofs.YtolioflblegneaaGreat
namespace Go.Proofs.YtolioflblegneaaGreat
open Go.RowKit
def rTenB : Ob := ⟨3, true, .st [.v (.int .i64 10)]⟩
attribute [push_cast] rTenB
theorem rcl_pu : Pu Tryz.prog 222 [.p 0 0 0] [rTenB] (.v (.int .i64 5)) := by
  refine pu_of_ex true [] mixed Tryz.call222 Tryz.func222 rfl Tryz.ntmps222 Tryz.results222 (by decide +kernel) rfl rfl rfl ?_
  refine sxg ?_
  try with_reducible exact trivial
theorem sized_pu : Pu Tryz.prog 207 [.v (.int .i64 10), .f (.func 222) [] [.p 0 0 0]] [rTenB] (.t [.v (.int .i64 5), .v (.int .i64 0)]) := by
  have hs := size_pu 10
  rw [show szB 10 = true by decide +kernel] at hs
  refine pu_of_ex true [] mixed Tryz.call207 Tryz.func207 rfl Tryz.ntmps207 Tryz.results207 (by decide +kernel) rfl rfl rfl ?_
  refine sxg ?_
  try with_reducible exact trivial
  refine sp_c (hs) rfl [] ?_
  refine sxg ?_
  try with_reducible exact trivial
  refine sp_c (rcl_pu) rfl [0] ?_
  refine sxg ?_
  try with_reducible exact trivial
theorem round_pu : Pu Tryz.prog 200 [.v (.int .i64 10)] [] (.t [.v (.int .i64 5), .v (.int .i64 0)]) := by
  refine pu_of_ex true [] mixed Tryz.call200 Tryz.func200 rfl Tryz.ntmps200 Tryz.results200 (by decide +kernel) rfl rfl rfl ?_
  refine sxg ?_
  try with_reducible exact trivial
  refine sp_c (sized_pu) rfl [0] ?_
  refine sxg ?_
  try with_reducible exact trivial
def crI (i : Int) : Bx := if i = 0 then ⟨⟨45, 45, 95⟩, ⟨355, 55, 105⟩⟩ else ⟨⟨45, 75, 95⟩, ⟨355, 85, 105⟩⟩
attribute [push_cast] crI
set_option maxHeartbeats 4000000 in
theorem grown_pu (i : Int) (h : i = 0 ∨ i = 1) : Pu Tryz.prog 201 [.a (cX (bxI i)), .v (.int .i64 5)] [] (.t [.a (cX (crI i)), .v (.int .i64 0)]) := by
  have h1 := bvalid_pu (bxI i)
  have h2 := bvalid_pu (crI i)
  rcases h with rfl | rfl
  · rw [show vxB (bxI 0) = true by decide +kernel] at h1
    rw [show vxB (crI 0) = true by decide +kernel] at h2
    refine pu_of_ex true [] mixed Tryz.call201 Tryz.func201 rfl Tryz.ntmps201 Tryz.results201 (by decide +kernel) rfl rfl rfl ?_
    refine sxg ?_
    try with_reducible exact trivial
    refine sp_c (h1) rfl [] ?_
    refine sxg ?_
    try with_reducible exact trivial
    refine sp_c (h2) rfl [] ?_
    refine sxg ?_
    try with_reducible exact trivial
  · rw [show vxB (bxI 1) = true by decide +kernel] at h1
    rw [show vxB (crI 1) = true by decide +kernel] at h2
    refine pu_of_ex true [] mixed Tryz.call201 Tryz.func201 rfl Tryz.ntmps201 Tryz.results201 (by decide +kernel) rfl rfl rfl ?_
    refine sxg ?_
    try with_reducible exact trivial
    refine sp_c (h1) rfl [] ?_
    refine sxg ?_
    try with_reducible exact trivial
    refine sp_c (h2) rfl [] ?_
    refine sxg ?_
    try with_reducible exact trivial
theorem core_pu (i : Int) (h : i = 0 ∨ i = 1) : Pu Tryz.prog 164 [.v (.int .i64 10), .a (cX (bxI i))] [] (.t [.a (cX (crI i)), .v (.bool true)]) := by
  have hg := grown_pu i h
  obtain ⟨b, hb⟩ : ∃ b, bxI i = b := ⟨_, rfl⟩
  rw [hb] at hg ⊢
  refine pu_of_ex true [] mixed Tryz.call164 Tryz.func164 rfl Tryz.ntmps164 Tryz.results164 (by decide +kernel) rfl rfl rfl ?_
  refine sxg ?_
  try with_reducible exact trivial
  refine sp_c (round_pu) rfl [] ?_
  refine sxg ?_
  try with_reducible exact trivial
  refine sp_c (hg) rfl [] ?_
  refine sxg ?_
  try with_reducible exact trivial
def grB (b : Bx) (c : Int) : Bx := ⟨⟨b.lo.x - c, b.lo.y - c, b.lo.z - c⟩, ⟨b.hi.x + c, b.hi.y + c, b.hi.z + c⟩⟩
theorem all_pu (b : Bx) (c : Int) (hv : vxB b = true) (hc : 0 ≤ c ∧ c < 2097153) : Pu Tryz.prog 167 [.a (cX b), .v (.int .i64 c)] [] (.a (cX (grB b c))) := by
  rw [vx_iff] at hv
  refine pu_of_ex true [] mixed Tryz.call167 Tryz.func167 rfl Tryz.ntmps167 Tryz.results167 (by decide +kernel) rfl rfl rfl ?_
  refine sxg ?_
  try with_reducible exact trivial
  repeat (with_reducible refine And.intro (by omega) ?_)
  rfl
/-- What the search asks of a leg's core. -/
theorem gcov_pu (i : Int) (c : Int) (h : i = 0 ∨ i = 1) (hc : 0 ≤ c ∧ c < 2097153) : Pu Tryz.prog 166 [.v (.int .i64 c), .p 0 0 0] [rBx (crI i)] (.a (cX (grB (crI i) c))) := by
  have ha := all_pu (crI i) c (by rcases h with rfl | rfl <;> decide +kernel) hc
  obtain ⟨b, hb⟩ : ∃ b, crI i = b := ⟨_, rfl⟩
  rw [hb] at ha ⊢
  refine pu_of_ex true [] mixed Tryz.call166 Tryz.func166 rfl Tryz.ntmps166 Tryz.results166 (by decide +kernel) rfl rfl rfl ?_
  refine sxg ?_
  try with_reducible exact trivial
  refine sp_c (ha) rfl [] ?_
  refine sxg ?_
  try with_reducible exact trivial
theorem gr_lo (b : Bx) (c : Int) : (grB b c).lo.x = b.lo.x - c ∧ (grB b c).lo.y = b.lo.y - c ∧ (grB b c).lo.z = b.lo.z - c ∧ (grB b c).hi.x = b.hi.x + c ∧ (grB b c).hi.y = b.hi.y + c ∧ (grB b c).hi.z = b.hi.z + c := ⟨rfl, rfl, rfl, rfl, rfl, rfl⟩
theorem gheld_pu (i : Int) (k : Int) (c : Nat) (h : i = 0 ∨ i = 1) (hk : 0 ≤ k ∧ k < 2097153) : Pu Tryz.prog 204 [.a (cMem c), .a (cX (grB (crI i) k))] [rBxs [bM]] (.v (.bool (decide (k ≤ 45)))) := by
  have e : (crI i).lo.x = 45 ∧ (crI i).hi.x = 355 ∧ (crI i).lo.z = 95 ∧ (crI i).hi.z = 105 ∧ 45 ≤ (crI i).lo.y ∧ (crI i).lo.y < (crI i).hi.y ∧ (crI i).hi.y ≤ 85 := by
    rcases h with rfl | rfl <;> decide +kernel
  obtain ⟨g1, g2, g3, g4, g5, g6⟩ := gr_lo (crI i) k
  by_cases h45 : k ≤ 45
  · rw [decide_eq_true h45]
    refine held1_pu _ c ((vx_iff _).2 ?_) ?_ ?_
    · rw [g1, g2, g3, g4, g5, g6]; omega
    · unfold covB; rw [g1, g2, g3, g4, g5, g6]; omega
    · rw [g1, g2, g3, g4, g5, g6]; omega
  · rw [decide_eq_false h45]
    refine held0_pu _ c ?_
    cases hv : vxB (grB (crI i) k) with
    | false => exact .inl rfl
    | true =>
      refine .inr ⟨rfl, ?_, ?_⟩
      · unfold covB; rw [g1, g2, g3, g4, g5, g6]; omega
      · rw [g1]; omega
def rFn : Ob := ⟨245, true, .st [.f (.func 166) [] [.p 3 0 0]]⟩
def rMem (c : Nat) : Ob := ⟨75, true, .st (cMem c)⟩
attribute [push_cast] rFn rMem
theorem scl_pu (i : Int) (k : Int) (c : Nat) (h : i = 0 ∨ i = 1) (hk : 0 ≤ k ∧ k < 2097153) : Pu Tryz.prog 203 [.v (.int .i64 k), .p 1 0 0, .p 2 0 0] [rBxs [bM], rMem c, rFn, rBx (crI i)] (.v (.bool (!decide (k ≤ 45)))) := by
  have h1 := gcov_pu i k h hk
  have h2 := gheld_pu i k c h hk
  obtain ⟨b, hb⟩ : ∃ b, crI i = b := ⟨_, rfl⟩
  rw [hb] at h1 h2 ⊢
  refine pu_of_ex true [(1, .pre [] [0, 1, 2] (.one 3 (.one 4 (.one 5 (.one 6 .fin)))))] mixed Tryz.call203 Tryz.func203 rfl Tryz.ntmps203 Tryz.results203 (by decide +kernel) rfl rfl rfl ?_
  refine sxg ?_
  try with_reducible exact trivial
  refine sp_c (h1) rfl [3] ?_
  refine sxg ?_
  try with_reducible exact trivial
  refine sp_c (h2) rfl [0] ?_
  refine sxg ?_
  try with_reducible exact trivial
set_option maxHeartbeats 1000000 in
theorem greatest_pu (i : Int) (c : Nat) (h : i = 0 ∨ i = 1) : Pu Tryz.prog 165 [.a (cMem c), .f (.func 166) [] [.p 1 0 0]] [rBxs [bM], rBx (crI i)] (.v (.int .i64 45)) := by
  have hs := searchN_pu 2097153 46 2097153 46 (by decide) (by decide) 203 [] [.p 1 0 0, .p 2 0 0] [rBxs [bM], rMem c, rFn, rBx (crI i)] (fun k => !decide ((k : Int) ≤ 45)) rfl (by simp) (by simp) (fun k hk => by simp; omega) (fun k h1 h2 => by simp; omega) (fun k hk => scl_pu i k c h (by omega))
  obtain ⟨b, hb⟩ : ∃ b, crI i = b := ⟨_, rfl⟩
  rw [hb] at hs ⊢
  refine pu_of_ex true [] mixed Tryz.call165 Tryz.func165 rfl Tryz.ntmps165 Tryz.results165 (by decide +kernel) rfl rfl rfl ?_
  refine sxg ?_
  try with_reducible exact trivial
  refine sp_call hs rfl [0, 2, 3, 1] rfl ?_ ?_ ?_
  · refine sxg ?_
    try with_reducible exact trivial
  · refine sxg ?_
    try with_reducible exact trivial
  refine sxg ?_
  try with_reducible exact trivial
theorem cof_pu (i : Int) (c : Nat) (h : i = 0 ∨ i = 1) : Pu Tryz.prog 121 [.a (cMem c), .v (.int .i64 10), .a (cX (bxI i))] [rBxs [bM]] (.v (.int .i64 45)) := by
  have h1 := core_pu i h
  have h2 := greatest_pu i c h
  obtain ⟨b, hb⟩ : ∃ b, crI i = b := ⟨_, rfl⟩
  obtain ⟨d, hd⟩ : ∃ d, bxI i = d := ⟨_, rfl⟩
  rw [hd, hb] at h1
  rw [hb] at h2
  rw [hd]
  refine pu_of_ex true [] mixed Tryz.call121 Tryz.func121 rfl Tryz.ntmps121 Tryz.results121 (by decide +kernel) rfl rfl rfl ?_
  refine sxg ?_
  try with_reducible exact trivial
  refine sp_c (h1) rfl [] ?_
  refine sxg ?_
  try with_reducible exact trivial
  refine sp_c (h2) rfl [0, 3] ?_
  refine sxg ?_
  try with_reducible exact trivial
end Go.Proofs.YtolioflblegneaaGreat
namespace Go.Proofs.YtolioflblegneaaGreat
open Go.RowKit
set_option maxHeartbeats 2000000 in
theorem csizes_sp (c : Nat) : Sp Tryz.prog 120 [.s 0 0 0 1 c 5] [rBa 1 l0 c0, rDs l0] (fun r H => r = .m 2 ∧ H = [rBa 1 l0 c0, rDs l0, oMp]) := by
  refine sp_weak ?_
  refine sp_of_ex true [] mixed Tryz.call120 Tryz.func120 rfl Tryz.ntmps120 Tryz.results120 (by decide +kernel) rfl ?_
  refine sxg ?_
  try with_reducible exact trivial
  refine tr_un mixed (by kernel_rfl) ?_
  refine sxg ?_
  try with_reducible exact trivial
  refine tl_un mixed (by kernel_rfl) ?_
  refine sxg ?_
  try with_reducible exact trivial
  refine ⟨_, _, [0, 1, 2], ?_, by kernel_rfl, ?_, rfl, rfl⟩
  · refine sxg ?_
    try with_reducible exact trivial
  · refine sxg ?_
    try with_reducible exact trivial
def cMem3 (c : Nat) : List SV := [.v (.string sM), .s 3 0 0 1 c 6, .v (.slice none 0 0), .v (.int .i64 30), .v (.int .i64 16), .v (.int .i64 50)]
def G1 : List Ob := [rBa 1 l0 c0, rDs l0, rRn, rBxs [bM]]
attribute [push_cast] cMem3 G1
theorem ccount_pu (c c2 c3 : Nat) : Pu Tryz.prog 76 [.a (cMem3 c3), .s 0 0 0 1 c 5, .s 2 0 0 1 c2 10] G1 (.t [.v (.int .i64 2), .v (.int .i64 0)]) := by
  refine pu_of_ex true [] mixed Tryz.call76 Tryz.func76 rfl Tryz.ntmps76 Tryz.results76 (by decide +kernel) rfl rfl rfl ?_
  refine sxg ?_
  try with_reducible exact trivial
  refine sp_c (member_pu c3) rfl [3] ?_
  refine sxg ?_
  try with_reducible exact trivial
  refine sp_c (lcount_pu c c2) rfl [0, 1, 2] ?_
  refine sxg ?_
  try with_reducible exact trivial
set_option maxHeartbeats 8000000 in
theorem cbar_pu (c c2 c3 : Nat) (i : Int) (h : i = 0 ∨ i = 1) : Pu Tryz.prog 77 [.a (cMem3 c3), .s 0 0 0 1 c 5, .s 2 0 0 1 c2 10, .v (.int .i64 i)] G1 (.t [.v (.int .i64 45), .v (.string sA), .v (.int .i64 0)]) := by
  have hm := lmark_pu c c2 i h
  have hl := llegs_sp c c2 i h
  have hof := cof_pu i c3 h
  obtain ⟨b, hb⟩ : ∃ b, bxI i = b := ⟨_, rfl⟩
  rw [hb] at hl hof
  refine pu_of_ex true [] mixed Tryz.call77 Tryz.func77 rfl Tryz.ntmps77 Tryz.results77 (by decide +kernel) rfl rfl rfl ?_
  refine sxg ?_
  try with_reducible exact trivial
  refine sp_c (hm) rfl [0, 1, 2] ?_
  refine sxg ?_
  try with_reducible exact trivial
  refine sp_at hl [0, 1, 2] (by kernel_rfl) ?_ ?_ ?_
  · refine sxg ?_
    try with_reducible exact trivial
  · refine sxg ?_
    try with_reducible exact trivial
  rintro _ _ ⟨cap, hcap, rfl, rfl⟩
  refine sxg ?_
  try with_reducible exact trivial
  refine sp_at (csizes_sp c) [0, 1] (by kernel_rfl) ?_ ?_ ?_
  · refine sxg ?_
    try with_reducible exact trivial
  · refine sxg ?_
    try with_reducible exact trivial
  rintro _ _ ⟨rfl, rfl⟩
  refine sxg ?_
  try with_reducible exact trivial
  refine tr_un mixed (by kernel_rfl) ?_
  refine sxg ?_
  try with_reducible exact trivial
  refine sp_c (hof) rfl [3] ?_
  refine sxg ?_
  try with_reducible exact trivial
  refine tl_un mixed (by kernel_rfl) ?_
  refine sxg ?_
  try with_reducible exact trivial
set_option maxHeartbeats 4000000 in
theorem ccheck_pu (c c2 c3 : Nat) : Pu Tryz.prog 34 [.a (cMem3 c3), .s 0 0 0 1 c 5, .s 2 0 0 1 c2 10] G1 (.t [.v (.slice none 0 0), .v (.int .i64 0)]) := by
  refine pu_of_ex true [] mixed Tryz.call34 Tryz.func34 rfl Tryz.ntmps34 Tryz.results34 (by decide +kernel) rfl rfl rfl ?_
  refine sxg ?_
  try with_reducible exact trivial
  refine sp_c (ccount_pu c c2 c3) rfl [0, 1, 2, 3] ?_
  refine sxg ?_
  try with_reducible exact trivial
  refine tr_un mixed (by kernel_rfl) ?_
  refine sxg ?_
  try with_reducible exact trivial
  refine sp_c (cbar_pu c c2 c3 0 (.inl rfl)) rfl [0, 1, 2, 3] ?_
  refine sxg ?_
  try with_reducible exact trivial
  refine tl_un mixed (by kernel_rfl) ?_
  refine sxg ?_
  try with_reducible exact trivial
  refine sp_c (cbar_pu c c2 c3 1 (.inr rfl)) rfl [0, 1, 2, 3] ?_
  refine sxg ?_
  try with_reducible exact trivial
  refine tl_un mixed (by kernel_rfl) ?_
  refine sxg ?_
  try with_reducible exact trivial
end Go.Proofs.YtolioflblegneaaGreat
