/- The document's curve: its number, the zero point, sums. The document's curve: sums. The document's curve: multiples. The document's curve: are two points the same, does one lie on the curve. -/
import Derived.Test.YtceljjnohjnepaaGreatDoorM14
import Derived.Test.YtceljjnohjnepaaGreatDoorM18
namespace Go.Proofs.YtceljjnohjnepaaGreatDoor
open Go Go.RowKit DG

set_option maxRecDepth 100000 in
theorem rpt_zero : (#[.int .u64 0, .int .u64 0, .int .u64 0, .int .u64 0, .int .u64 0, .int .u64 0, .int .u64 0, .int .u64 0, .int .u64 0, .int .u64 0, .int .u64 0, .int .u64 0, .int .u64 0, .int .u64 0, .int .u64 0, .int .u64 0, .int .u64 0, .int .u64 0, .int .u64 0, .int .u64 0, .int .u64 0, .int .u64 0, .int .u64 0, .int .u64 0, .int .u64 0, .int .u64 0, .int .u64 0] : Array Value) = rpt 0 0 0 := rfl
def buildRowR (t : TypeId) (ps : Array (Nat × Value)) : Sem Value := Instr.build t ps
set_option maxRecDepth 100000 in
theorem exb_RPt {r : Operand → Value} {dst : Option Nat} {ps : Array (Nat × Operand)} {t : TypeId} {pos : String} {af : Array Edge} {g : Option (Nat × Bool)} : execOp r ⟨dst, .build 50 ps, t, pos, af, g⟩ = (do let v ← buildRowR 50 (ps.map fun (i, x) => (i, r x)); pure (Next.value v)) := rfl
set_option maxRecDepth 100000 in
theorem bld_rpt (x y z : Nat) (w : World) : (buildRowR 50 #[(0, .agg (nine x)), (1, .agg (nine y)), (2, .agg (nine z))]).run Tryz.prog w = .ok (.agg (rpt x y z)) w :=
  run_build w 50 _ _ (by kernel_rfl)
set_option maxRecDepth 100000 in
theorem bld_rpt0 (w : World) : (buildRowR 50 #[]).run Tryz.prog w = .ok (.agg (rpt 0 0 0)) w := run_build w 50 _ _ (by kernel_rfl)
set_option maxRecDepth 100000 in
theorem bld_rptz (y z : Nat) (w : World) : (buildRowR 50 #[(1, .agg (nine y)), (2, .agg (nine z))]).run Tryz.prog w = .ok (.agg (rpt 0 y z)) w :=
  run_build w 50 _ _ (by kernel_rfl)
attribute [local go_sem ↓] exl_Num exs_Num exl_RPt exs_RPt exb_RPt
                                      attribute [local go_sem] ldm_Num str_Num ldr_RPt str_RPt to_nine0 rpt_zero bld_rpt bld_rpt0
abbrev rv (s : R3) : Value := .agg (rpt s.x s.y s.z)

set_option maxRecDepth 100000 in
theorem rmul_v (a b : Nat) (w : World) (ha : a < pP) (hb : b < pP) : Calls Tryz.prog 44 #[.agg (nine a), .agg (nine b)] w fun e w' => e = .returned (.agg (nine (rm a b))) ∧ Below w.heap.size w w' := ref_Mul a b w ha hb
set_option maxRecDepth 100000 in
theorem radd_v (a b : Nat) (w : World) (ha : a < pP) (hb : b < pP) : Calls Tryz.prog 75 #[.agg (nine a), .agg (nine b)] w fun e w' => e = .returned (.agg (nine (ra a b))) ∧ Below w.heap.size w w' := ref_Add a b w ha (Nat.le_of_lt hb)
set_option maxRecDepth 100000 in
theorem rsub_v (a b : Nat) (w : World) (ha : a < pP) (hb : b < pP) : Calls Tryz.prog 73 #[.agg (nine a), .agg (nine b)] w fun e w' => e = .returned (.agg (nine (rs a b))) ∧ Below w.heap.size w w' := ref_Sub a b w ha (Nat.le_of_lt hb)
set_option maxRecDepth 100000 in
theorem dB_mod : bytesNat dB.data.toList % pP = dN := by rw [dB_nat]; exact Nat.mod_eq_of_lt dN_pP
set_option maxRecDepth 100000 in
set_option maxHeartbeats 1000000 in
theorem given_any (W : World) : Calls Tryz.prog 74 #[] W fun r w' => r = .returned (.agg (nine dN)) ∧ Below W.heap.size W w' := by
  have O1 := fun w => ref_Of dB w (by decide)
  rw [dB_mod] at O1
  have HO := hid O1
  clear O1
  go_enter Tryz.func74, Tryz.ntmps74
  go_wp2_with fail
  obtain ⟨w1, hw1⟩ : ∃ w1, W.alloc (.cells (nine 0) 48) = w1 := ⟨_, rfl⟩
  have kR := kept (show hget w1 (W.heap.size) = some (.cells (nine 0) 48 (0, 0)) by rw [← hw1]; clear hw1; go_simp)
  have b1 : Hid (Below W.heap.size W w1) := by rw [← hw1]; repeat (first | exact Below.refl _ _ | exact below_new _ | assumption | refine Below.drew ?_ | refine Below.drewN ?_ _ | refine below_alloc ?_ _ | refine below_blk' ?_ (by omega) _)
  rw [hw1]
  clear hw1
  try clear gR lR nR mR
  try clear jR
  have jR := kR.later
  obtain ⟨gR, lR, nR, mR⟩ := kR
  try clear jR
  refine (HO.out _).mono ?_
  rintro e w2 ⟨rfl, hb2⟩
  have kR := Kept.on (kept (b := W.heap.size) (o := .cells (nine 0) 48 (0, 0)) (by go_simp)) hb2
  have b2 : Hid (Below W.heap.size W w2) := below_to (by repeat (first | exact Below.refl _ _ | exact below_new _ | exact b1.out | assumption | refine Below.drew ?_ | refine Below.drewN ?_ _ | refine below_alloc ?_ _ | refine below_blk' ?_ (by omega) _)) hb2
  clear hb2
  try clear gR lR nR mR
  obtain ⟨gR, lR, nR, mR⟩ := kR
  clear b1
  go_wp2_with fail
  refine bodyPost_ret (v := .agg (nine dN)) (results_cell_row Tryz.results74 _ _ (W.heap.size) 48 (nine dN) (0, 0) _ (by rfl) (by rw [← hget_eq]; go_simp) Tryz.underlying48 rfl (by rw [info_Num]; go_simp)) rfl ?_
  exact ⟨rfl, below_blk' b2.out (by omega) _⟩

set_option maxRecDepth 100000 in
theorem dval : rm (rs 0 121665) (rInv 121666) = dN := by decide +kernel
attribute [local go_sem] bld_rptz
set_option maxRecDepth 100000 in
set_option maxHeartbeats 1000000 in
theorem rzero_any (W : World) : Calls Tryz.prog 39 #[] W fun r w' => r = .returned (rv R3.zero) ∧ Below W.heap.size W w' := by
  have S1 := hid (fun w => ref_Small 1 w (by decide))
  go_enter Tryz.func39, Tryz.ntmps39
  go_upto_region 1 with (fail)
  obtain ⟨w1, hw1⟩ : ∃ w1, W.alloc (.cells (rpt 0 0 0) 50) = w1 := ⟨_, rfl⟩
  have kR := kept (show hget w1 (W.heap.size) = some (.cells (rpt 0 0 0) 50 (0, 0)) by rw [← hw1]; clear hw1; go_simp)
  have b1 : Hid (Below W.heap.size W w1) := by rw [← hw1]; repeat (first | exact Below.refl _ _ | exact below_new _ | assumption | refine Below.drew ?_ | refine Below.drewN ?_ _ | refine below_alloc ?_ _ | refine below_blk' ?_ (by omega) _)
  rw [hw1]
  clear hw1
  try clear gR lR nR mR
  try clear jR
  have jR := kR.later
  obtain ⟨gR, lR, nR, mR⟩ := kR
  go_wp2_with fail
  try clear jR
  refine (S1.out _).mono ?_
  rintro e w2 ⟨rfl, hb2⟩
  have kR := Kept.on (kept (b := W.heap.size) (o := .cells (rpt 0 0 0) 50 (0, 0)) (by go_simp)) hb2
  have b2 : Hid (Below W.heap.size W w2) := below_to (by repeat (first | exact Below.refl _ _ | exact below_new _ | exact b1.out | assumption | refine Below.drew ?_ | refine Below.drewN ?_ _ | refine below_alloc ?_ _ | refine below_blk' ?_ (by omega) _)) hb2
  clear hb2
  try clear gR lR nR mR
  obtain ⟨gR, lR, nR, mR⟩ := kR
  clear b1
  go_wp2_with fail
  try clear jR
  refine (S1.out _).mono ?_
  rintro e w3 ⟨rfl, hb3⟩
  have kR := Kept.on (kept (b := W.heap.size) (o := .cells (rpt 0 0 0) 50 (0, 0)) (by go_simp)) hb3
  have b3 : Hid (Below W.heap.size W w3) := below_to (by repeat (first | exact Below.refl _ _ | exact below_new _ | exact b2.out | assumption | refine Below.drew ?_ | refine Below.drewN ?_ _ | refine below_alloc ?_ _ | refine below_blk' ?_ (by omega) _)) hb3
  clear hb3
  try clear gR lR nR mR
  obtain ⟨gR, lR, nR, mR⟩ := kR
  clear b2
  go_wp2_with fail
  refine bodyPost_ret (v := .agg (rpt 0 1 1)) (results_cell_row Tryz.results39 _ _ (W.heap.size) 50 (rpt 0 1 1) (0, 0) _ (by rfl) (by rw [← hget_eq]; go_simp) Tryz.underlying50 rfl (by rw [info_RPt]; go_simp)) rfl ?_
  exact ⟨rfl, below_blk' b3.out (by omega) _⟩

end Go.Proofs.YtceljjnohjnepaaGreatDoor

namespace Go.Proofs.YtceljjnohjnepaaGreatDoor
open Go Go.RowKit DG
attribute [local go_sem ↓] exl_Num exs_Num exl_RPt exs_RPt exb_RPt
                    attribute [local go_sem] ldm_Num str_Num ldr_RPt str_RPt to_nine0 rpt_zero bld_rpt bld_rpt0

set_option maxRecDepth 100000 in
set_option maxHeartbeats 4000000 in
theorem radd_core (x y z x' y' z' a b c d e f g h : Nat) (W : World) (hx : x < pP) (hy : y < pP) (hz : z < pP) (hx' : x' < pP) (hy' : y' < pP) (hz' : z' < pP)
    (ha : rm z z' = a) (hb : rm a a = b) (hc : rm x x' = c) (hd : rm y y' = d) (he : rm (rm dN c) d = e) (hf : rs b e = f) (hg : ra b e = g) (hh : rs (rs (rm (ra x y) (ra x' y')) c) d = h) :
    Calls Tryz.prog 37 #[.agg (rpt x y z), .agg (rpt x' y' z')] W fun r w' => r = .returned (.agg (rpt (rm (rm a f) h) (rm (rm a g) (ra d c)) (rm f g))) ∧ Below W.heap.size W w' := by
  have la : a < pP := ha ▸ rm_lt _ _
  have lb : b < pP := hb ▸ rm_lt _ _
  have lc : c < pP := hc ▸ rm_lt _ _
  have ld : d < pP := hd ▸ rm_lt _ _
  have le : e < pP := he ▸ rm_lt _ _
  have lf : f < pP := hf ▸ rs_lt _ _
  have lg : g < pP := hg ▸ ra_lt _ _
  have lh : h < pP := hh ▸ rs_lt _ _
  have M1 := hid (fun w => ha ▸ rmul_v z z' w hz hz')
  have M2 := hid (fun w => hb ▸ rmul_v a a w la la)
  have M3 := hid (fun w => hc ▸ rmul_v x x' w hx hx')
  have M4 := hid (fun w => hd ▸ rmul_v y y' w hy hy')
  have G1 := hid (fun w => given_any w)
  have M5 := hid (fun w => rmul_v dN c w dN_pP lc)
  have M6 := hid (fun w => he ▸ rmul_v (rm dN c) d w (rm_lt _ _) ld)
  have S1 := hid (fun w => hf ▸ rsub_v b e w lb le)
  have A1 := hid (fun w => hg ▸ radd_v b e w lb le)
  have A2 := hid (fun w => radd_v x y w hx hy)
  have A3 := hid (fun w => radd_v x' y' w hx' hy')
  have M7 := hid (fun w => rmul_v (ra x y) (ra x' y') w (ra_lt _ _) (ra_lt _ _))
  have S2 := hid (fun w => rsub_v (rm (ra x y) (ra x' y')) c w (rm_lt _ _) lc)
  have S3 := hid (fun w => hh ▸ rsub_v (rs (rm (ra x y) (ra x' y')) c) d w (rs_lt _ _) ld)
  have M8 := hid (fun w => rmul_v a f w la lf)
  have M9 := hid (fun w => rmul_v (rm a f) h w (rm_lt _ _) lh)
  have Ma := hid (fun w => rmul_v a g w la lg)
  have A4 := hid (fun w => radd_v d c w ld lc)
  have Mb := hid (fun w => rmul_v (rm a g) (ra d c) w (rm_lt _ _) (ra_lt _ _))
  have Mc := hid (fun w => rmul_v f g w lf lg)
  clear ha hb hc hd he hf hg hh la lb lc ld le lf lg lh hx hy hz hx' hy' hz'
  generalize dN = dd at *
  go_enter Tryz.func37, Tryz.ntmps37
  go_upto_region 1 with (fail)
  obtain ⟨w1, hw1⟩ : ∃ w1, ((W.alloc (.cells (rpt x y z) 50)).alloc (.cells (rpt x' y' z') 50)).alloc (.cells (rpt 0 0 0) 50) = w1 := ⟨_, rfl⟩
  have kP := kept (show hget w1 (W.heap.size) = some (.cells (rpt x y z) 50 (0, 0)) by rw [← hw1]; clear hw1; go_simp)
  have kQ := kept (show hget w1 (W.heap.size + 1) = some (.cells (rpt x' y' z') 50 (0, 0)) by rw [← hw1]; clear hw1; go_simp)
  have kR := kept (show hget w1 (W.heap.size + 1 + 1) = some (.cells (rpt 0 0 0) 50 (0, 0)) by rw [← hw1]; clear hw1; go_simp)
  have b1 : Hid (Below W.heap.size W w1) := by rw [← hw1]; repeat (first | exact Below.refl _ _ | exact below_new _ | assumption | refine Below.drew ?_ | refine Below.drewN ?_ _ | refine below_alloc ?_ _ | refine below_blk' ?_ (by omega) _)
  rw [hw1]
  clear hw1
  try clear gP lP nP mP
  try clear jP
  have jP := kP.later
  obtain ⟨gP, lP, nP, mP⟩ := kP
  try clear gQ lQ nQ mQ
  try clear jQ
  have jQ := kQ.later
  obtain ⟨gQ, lQ, nQ, mQ⟩ := kQ
  try clear gR lR nR mR
  try clear jR
  have jR := kR.later
  obtain ⟨gR, lR, nR, mR⟩ := kR
  go_wp2_with fail
  try clear jP jQ jR
  refine (M1.out _).mono ?_
  rintro e w2 ⟨rfl, hb2⟩
  have kP := Kept.on (kept (b := W.heap.size) (o := .cells (rpt x y z) 50 (0, 0)) (by go_simp)) hb2
  have kQ := Kept.on (kept (b := W.heap.size + 1) (o := .cells (rpt x' y' z') 50 (0, 0)) (by go_simp)) hb2
  have kR := Kept.on (kept (b := W.heap.size + 1 + 1) (o := .cells (rpt 0 0 0) 50 (0, 0)) (by go_simp)) hb2
  have b2 : Hid (Below W.heap.size W w2) := below_to (by repeat (first | exact Below.refl _ _ | exact below_new _ | exact b1.out | assumption | refine Below.drew ?_ | refine Below.drewN ?_ _ | refine below_alloc ?_ _ | refine below_blk' ?_ (by omega) _)) hb2
  clear hb2
  try clear gP lP nP mP
  obtain ⟨gP, lP, nP, mP⟩ := kP
  try clear gQ lQ nQ mQ
  obtain ⟨gQ, lQ, nQ, mQ⟩ := kQ
  try clear gR lR nR mR
  obtain ⟨gR, lR, nR, mR⟩ := kR
  clear b1
  go_upto_region 2 with (fail)
  obtain ⟨A, hA⟩ : ∃ b, w2.heap.size = b := ⟨_, rfl⟩
  have wA : W.heap.size ≤ A := by rw [← hA]; exact b2.out.size
  have ePA : (W.heap.size = A) = False := by rw [← hA]; exact nP
  have eAP : (A = W.heap.size) = False := by rw [← hA]; exact mP
  have eQA : (W.heap.size + 1 = A) = False := by rw [← hA]; exact nQ
  have eAQ : (A = W.heap.size + 1) = False := by rw [← hA]; exact mQ
  have eRA : (W.heap.size + 1 + 1 = A) = False := by rw [← hA]; exact nR
  have eAR : (A = W.heap.size + 1 + 1) = False := by rw [← hA]; exact mR
  obtain ⟨w3, hw3⟩ : ∃ w3, w2.alloc (.cells (nine a) 48) = w3 := ⟨_, rfl⟩
  have kP := kept (show hget w3 (W.heap.size) = some (.cells (rpt x y z) 50 (0, 0)) by rw [← hw3]; clear hw3; go_simp)
  have kQ := kept (show hget w3 (W.heap.size + 1) = some (.cells (rpt x' y' z') 50 (0, 0)) by rw [← hw3]; clear hw3; go_simp)
  have kR := kept (show hget w3 (W.heap.size + 1 + 1) = some (.cells (rpt 0 0 0) 50 (0, 0)) by rw [← hw3]; clear hw3; go_simp)
  have kA := kept (show hget w3 (w2.heap.size) = some (.cells (nine a) 48) by rw [← hw3]; clear hw3; go_simp)
  have b3 : Hid (Below W.heap.size W w3) := by rw [← hw3]; repeat (first | exact Below.refl _ _ | exact below_new _ | exact b2.out | assumption | refine Below.drew ?_ | refine Below.drewN ?_ _ | refine below_alloc ?_ _ | refine below_blk' ?_ (by omega) _)
  rw [hw3]
  clear hw3
  try clear gP lP nP mP
  try clear jP
  have jP := kP.later
  obtain ⟨gP, lP, nP, mP⟩ := kP
  try clear gQ lQ nQ mQ
  try clear jQ
  have jQ := kQ.later
  obtain ⟨gQ, lQ, nQ, mQ⟩ := kQ
  try clear gR lR nR mR
  try clear jR
  have jR := kR.later
  obtain ⟨gR, lR, nR, mR⟩ := kR
  try clear gA lA nA mA
  try clear jA
  have jA := kA.later
  obtain ⟨gA, lA, nA, mA⟩ := kA
  clear b2
  rw [hA] at *
  clear hA
  go_wp2_with fail
  try clear jP jQ jR jA
  refine (M2.out _).mono ?_
  rintro e w4 ⟨rfl, hb4⟩
  have kP := Kept.on (kept (b := W.heap.size) (o := .cells (rpt x y z) 50 (0, 0)) (by go_simp)) hb4
  have kQ := Kept.on (kept (b := W.heap.size + 1) (o := .cells (rpt x' y' z') 50 (0, 0)) (by go_simp)) hb4
  have kR := Kept.on (kept (b := W.heap.size + 1 + 1) (o := .cells (rpt 0 0 0) 50 (0, 0)) (by go_simp)) hb4
  have kA := Kept.on (kept (b := A) (o := .cells (nine a) 48 (0, 0)) (by go_simp)) hb4
  have b4 : Hid (Below W.heap.size W w4) := below_to (by repeat (first | exact Below.refl _ _ | exact below_new _ | exact b3.out | assumption | refine Below.drew ?_ | refine Below.drewN ?_ _ | refine below_alloc ?_ _ | refine below_blk' ?_ (by omega) _)) hb4
  clear hb4
  try clear gP lP nP mP
  obtain ⟨gP, lP, nP, mP⟩ := kP
  try clear gQ lQ nQ mQ
  obtain ⟨gQ, lQ, nQ, mQ⟩ := kQ
  try clear gR lR nR mR
  obtain ⟨gR, lR, nR, mR⟩ := kR
  try clear gA lA nA mA
  obtain ⟨gA, lA, nA, mA⟩ := kA
  clear b3
  go_upto_region 3 with (fail)
  obtain ⟨B, hB⟩ : ∃ b, w4.heap.size = b := ⟨_, rfl⟩
  have wB : W.heap.size ≤ B := by rw [← hB]; exact b4.out.size
  have ePB : (W.heap.size = B) = False := by rw [← hB]; exact nP
  have eBP : (B = W.heap.size) = False := by rw [← hB]; exact mP
  have eQB : (W.heap.size + 1 = B) = False := by rw [← hB]; exact nQ
  have eBQ : (B = W.heap.size + 1) = False := by rw [← hB]; exact mQ
  have eRB : (W.heap.size + 1 + 1 = B) = False := by rw [← hB]; exact nR
  have eBR : (B = W.heap.size + 1 + 1) = False := by rw [← hB]; exact mR
  have eAB : (A = B) = False := by rw [← hB]; exact nA
  have eBA : (B = A) = False := by rw [← hB]; exact mA
  obtain ⟨w5, hw5⟩ : ∃ w5, w4.alloc (.cells (nine b) 48) = w5 := ⟨_, rfl⟩
  have kP := kept (show hget w5 (W.heap.size) = some (.cells (rpt x y z) 50 (0, 0)) by rw [← hw5]; clear hw5; go_simp)
  have kQ := kept (show hget w5 (W.heap.size + 1) = some (.cells (rpt x' y' z') 50 (0, 0)) by rw [← hw5]; clear hw5; go_simp)
  have kR := kept (show hget w5 (W.heap.size + 1 + 1) = some (.cells (rpt 0 0 0) 50 (0, 0)) by rw [← hw5]; clear hw5; go_simp)
  have kA := kept (show hget w5 (A) = some (.cells (nine a) 48 (0, 0)) by rw [← hw5]; clear hw5; go_simp)
  have kB := kept (show hget w5 (w4.heap.size) = some (.cells (nine b) 48) by rw [← hw5]; clear hw5; go_simp)
  have b5 : Hid (Below W.heap.size W w5) := by rw [← hw5]; repeat (first | exact Below.refl _ _ | exact below_new _ | exact b4.out | assumption | refine Below.drew ?_ | refine Below.drewN ?_ _ | refine below_alloc ?_ _ | refine below_blk' ?_ (by omega) _)
  rw [hw5]
  clear hw5
  try clear gP lP nP mP
  try clear jP
  have jP := kP.later
  obtain ⟨gP, lP, nP, mP⟩ := kP
  try clear gQ lQ nQ mQ
  try clear jQ
  have jQ := kQ.later
  obtain ⟨gQ, lQ, nQ, mQ⟩ := kQ
  try clear gR lR nR mR
  try clear jR
  have jR := kR.later
  obtain ⟨gR, lR, nR, mR⟩ := kR
  try clear gA lA nA mA
  try clear jA
  have jA := kA.later
  obtain ⟨gA, lA, nA, mA⟩ := kA
  try clear gB lB nB mB
  try clear jB
  have jB := kB.later
  obtain ⟨gB, lB, nB, mB⟩ := kB
  clear b4
  rw [hB] at *
  clear hB
  go_wp2_with fail
  try clear jP jQ jR jA jB
  refine (M3.out _).mono ?_
  rintro e w6 ⟨rfl, hb6⟩
  have kP := Kept.on (kept (b := W.heap.size) (o := .cells (rpt x y z) 50 (0, 0)) (by go_simp)) hb6
  have kQ := Kept.on (kept (b := W.heap.size + 1) (o := .cells (rpt x' y' z') 50 (0, 0)) (by go_simp)) hb6
  have kR := Kept.on (kept (b := W.heap.size + 1 + 1) (o := .cells (rpt 0 0 0) 50 (0, 0)) (by go_simp)) hb6
  have kA := Kept.on (kept (b := A) (o := .cells (nine a) 48 (0, 0)) (by go_simp)) hb6
  have kB := Kept.on (kept (b := B) (o := .cells (nine b) 48 (0, 0)) (by go_simp)) hb6
  have b6 : Hid (Below W.heap.size W w6) := below_to (by repeat (first | exact Below.refl _ _ | exact below_new _ | exact b5.out | assumption | refine Below.drew ?_ | refine Below.drewN ?_ _ | refine below_alloc ?_ _ | refine below_blk' ?_ (by omega) _)) hb6
  clear hb6
  try clear gP lP nP mP
  obtain ⟨gP, lP, nP, mP⟩ := kP
  try clear gQ lQ nQ mQ
  obtain ⟨gQ, lQ, nQ, mQ⟩ := kQ
  try clear gR lR nR mR
  obtain ⟨gR, lR, nR, mR⟩ := kR
  try clear gA lA nA mA
  obtain ⟨gA, lA, nA, mA⟩ := kA
  try clear gB lB nB mB
  obtain ⟨gB, lB, nB, mB⟩ := kB
  clear b5
  go_upto_region 4 with (fail)
  obtain ⟨C, hC⟩ : ∃ b, w6.heap.size = b := ⟨_, rfl⟩
  have wC : W.heap.size ≤ C := by rw [← hC]; exact b6.out.size
  have ePC : (W.heap.size = C) = False := by rw [← hC]; exact nP
  have eCP : (C = W.heap.size) = False := by rw [← hC]; exact mP
  have eQC : (W.heap.size + 1 = C) = False := by rw [← hC]; exact nQ
  have eCQ : (C = W.heap.size + 1) = False := by rw [← hC]; exact mQ
  have eRC : (W.heap.size + 1 + 1 = C) = False := by rw [← hC]; exact nR
  have eCR : (C = W.heap.size + 1 + 1) = False := by rw [← hC]; exact mR
  have eAC : (A = C) = False := by rw [← hC]; exact nA
  have eCA : (C = A) = False := by rw [← hC]; exact mA
  have eBC : (B = C) = False := by rw [← hC]; exact nB
  have eCB : (C = B) = False := by rw [← hC]; exact mB
  obtain ⟨w7, hw7⟩ : ∃ w7, w6.alloc (.cells (nine c) 48) = w7 := ⟨_, rfl⟩
  have kP := kept (show hget w7 (W.heap.size) = some (.cells (rpt x y z) 50 (0, 0)) by rw [← hw7]; clear hw7; go_simp)
  have kQ := kept (show hget w7 (W.heap.size + 1) = some (.cells (rpt x' y' z') 50 (0, 0)) by rw [← hw7]; clear hw7; go_simp)
  have kR := kept (show hget w7 (W.heap.size + 1 + 1) = some (.cells (rpt 0 0 0) 50 (0, 0)) by rw [← hw7]; clear hw7; go_simp)
  have kA := kept (show hget w7 (A) = some (.cells (nine a) 48 (0, 0)) by rw [← hw7]; clear hw7; go_simp)
  have kB := kept (show hget w7 (B) = some (.cells (nine b) 48 (0, 0)) by rw [← hw7]; clear hw7; go_simp)
  have kC := kept (show hget w7 (w6.heap.size) = some (.cells (nine c) 48) by rw [← hw7]; clear hw7; go_simp)
  have b7 : Hid (Below W.heap.size W w7) := by rw [← hw7]; repeat (first | exact Below.refl _ _ | exact below_new _ | exact b6.out | assumption | refine Below.drew ?_ | refine Below.drewN ?_ _ | refine below_alloc ?_ _ | refine below_blk' ?_ (by omega) _)
  rw [hw7]
  clear hw7
  try clear gP lP nP mP
  try clear jP
  have jP := kP.later
  obtain ⟨gP, lP, nP, mP⟩ := kP
  try clear gQ lQ nQ mQ
  try clear jQ
  have jQ := kQ.later
  obtain ⟨gQ, lQ, nQ, mQ⟩ := kQ
  try clear gR lR nR mR
  try clear jR
  have jR := kR.later
  obtain ⟨gR, lR, nR, mR⟩ := kR
  try clear gA lA nA mA
  try clear jA
  have jA := kA.later
  obtain ⟨gA, lA, nA, mA⟩ := kA
  try clear gB lB nB mB
  try clear jB
  have jB := kB.later
  obtain ⟨gB, lB, nB, mB⟩ := kB
  try clear gC lC nC mC
  try clear jC
  have jC := kC.later
  obtain ⟨gC, lC, nC, mC⟩ := kC
  clear b6
  rw [hC] at *
  clear hC
  go_wp2_with fail
  try clear jP jQ jR jA jB jC
  refine (M4.out _).mono ?_
  rintro e w8 ⟨rfl, hb8⟩
  have kP := Kept.on (kept (b := W.heap.size) (o := .cells (rpt x y z) 50 (0, 0)) (by go_simp)) hb8
  have kQ := Kept.on (kept (b := W.heap.size + 1) (o := .cells (rpt x' y' z') 50 (0, 0)) (by go_simp)) hb8
  have kR := Kept.on (kept (b := W.heap.size + 1 + 1) (o := .cells (rpt 0 0 0) 50 (0, 0)) (by go_simp)) hb8
  have kA := Kept.on (kept (b := A) (o := .cells (nine a) 48 (0, 0)) (by go_simp)) hb8
  have kB := Kept.on (kept (b := B) (o := .cells (nine b) 48 (0, 0)) (by go_simp)) hb8
  have kC := Kept.on (kept (b := C) (o := .cells (nine c) 48 (0, 0)) (by go_simp)) hb8
  have b8 : Hid (Below W.heap.size W w8) := below_to (by repeat (first | exact Below.refl _ _ | exact below_new _ | exact b7.out | assumption | refine Below.drew ?_ | refine Below.drewN ?_ _ | refine below_alloc ?_ _ | refine below_blk' ?_ (by omega) _)) hb8
  clear hb8
  try clear gP lP nP mP
  obtain ⟨gP, lP, nP, mP⟩ := kP
  try clear gQ lQ nQ mQ
  obtain ⟨gQ, lQ, nQ, mQ⟩ := kQ
  try clear gR lR nR mR
  obtain ⟨gR, lR, nR, mR⟩ := kR
  try clear gA lA nA mA
  obtain ⟨gA, lA, nA, mA⟩ := kA
  try clear gB lB nB mB
  obtain ⟨gB, lB, nB, mB⟩ := kB
  try clear gC lC nC mC
  obtain ⟨gC, lC, nC, mC⟩ := kC
  clear b7
  go_upto_region 5 with (fail)
  obtain ⟨D, hD⟩ : ∃ b, w8.heap.size = b := ⟨_, rfl⟩
  have wD : W.heap.size ≤ D := by rw [← hD]; exact b8.out.size
  have ePD : (W.heap.size = D) = False := by rw [← hD]; exact nP
  have eDP : (D = W.heap.size) = False := by rw [← hD]; exact mP
  have eQD : (W.heap.size + 1 = D) = False := by rw [← hD]; exact nQ
  have eDQ : (D = W.heap.size + 1) = False := by rw [← hD]; exact mQ
  have eRD : (W.heap.size + 1 + 1 = D) = False := by rw [← hD]; exact nR
  have eDR : (D = W.heap.size + 1 + 1) = False := by rw [← hD]; exact mR
  have eAD : (A = D) = False := by rw [← hD]; exact nA
  have eDA : (D = A) = False := by rw [← hD]; exact mA
  have eBD : (B = D) = False := by rw [← hD]; exact nB
  have eDB : (D = B) = False := by rw [← hD]; exact mB
  have eCD : (C = D) = False := by rw [← hD]; exact nC
  have eDC : (D = C) = False := by rw [← hD]; exact mC
  obtain ⟨w9, hw9⟩ : ∃ w9, w8.alloc (.cells (nine d) 48) = w9 := ⟨_, rfl⟩
  have kP := kept (show hget w9 (W.heap.size) = some (.cells (rpt x y z) 50 (0, 0)) by rw [← hw9]; clear hw9; go_simp)
  have kQ := kept (show hget w9 (W.heap.size + 1) = some (.cells (rpt x' y' z') 50 (0, 0)) by rw [← hw9]; clear hw9; go_simp)
  have kR := kept (show hget w9 (W.heap.size + 1 + 1) = some (.cells (rpt 0 0 0) 50 (0, 0)) by rw [← hw9]; clear hw9; go_simp)
  have kA := kept (show hget w9 (A) = some (.cells (nine a) 48 (0, 0)) by rw [← hw9]; clear hw9; go_simp)
  have kB := kept (show hget w9 (B) = some (.cells (nine b) 48 (0, 0)) by rw [← hw9]; clear hw9; go_simp)
  have kC := kept (show hget w9 (C) = some (.cells (nine c) 48 (0, 0)) by rw [← hw9]; clear hw9; go_simp)
  have kD := kept (show hget w9 (w8.heap.size) = some (.cells (nine d) 48) by rw [← hw9]; clear hw9; go_simp)
  have b9 : Hid (Below W.heap.size W w9) := by rw [← hw9]; repeat (first | exact Below.refl _ _ | exact below_new _ | exact b8.out | assumption | refine Below.drew ?_ | refine Below.drewN ?_ _ | refine below_alloc ?_ _ | refine below_blk' ?_ (by omega) _)
  rw [hw9]
  clear hw9
  try clear gP lP nP mP
  try clear jP
  have jP := kP.later
  obtain ⟨gP, lP, nP, mP⟩ := kP
  try clear gQ lQ nQ mQ
  try clear jQ
  have jQ := kQ.later
  obtain ⟨gQ, lQ, nQ, mQ⟩ := kQ
  try clear gR lR nR mR
  try clear jR
  have jR := kR.later
  obtain ⟨gR, lR, nR, mR⟩ := kR
  try clear gA lA nA mA
  try clear jA
  have jA := kA.later
  obtain ⟨gA, lA, nA, mA⟩ := kA
  try clear gB lB nB mB
  try clear jB
  have jB := kB.later
  obtain ⟨gB, lB, nB, mB⟩ := kB
  try clear gC lC nC mC
  try clear jC
  have jC := kC.later
  obtain ⟨gC, lC, nC, mC⟩ := kC
  try clear gD lD nD mD
  try clear jD
  have jD := kD.later
  obtain ⟨gD, lD, nD, mD⟩ := kD
  clear b8
  rw [hD] at *
  clear hD
  clear M1 M2 M3 M4
  have vP : ∀ x_ : LaterV w9, hget x_.w' (W.heap.size) = some (.cells (rpt x y z) 50 (0, 0)) := laterx_get gP (by simp)
  have vQ : ∀ x_ : LaterV w9, hget x_.w' (W.heap.size + 1) = some (.cells (rpt x' y' z') 50 (0, 0)) := laterx_get gQ (by simp)
  have vR : ∀ x_ : LaterV w9, hget x_.w' (W.heap.size + 1 + 1) = some (.cells (rpt 0 0 0) 50 (0, 0)) := laterx_get gR (by simp)
  have vA : ∀ x_ : LaterV w9, hget x_.w' (A) = some (.cells (nine a) 48 (0, 0)) := laterx_get gA (by simp)
  have vB : ∀ x_ : LaterV w9, hget x_.w' (B) = some (.cells (nine b) 48 (0, 0)) := laterx_get gB (by simp)
  have vC : ∀ x_ : LaterV w9, hget x_.w' (C) = some (.cells (nine c) 48 (0, 0)) := laterx_get gC (by simp)
  have vD : ∀ x_ : LaterV w9, hget x_.w' (D) = some (.cells (nine d) 48 (0, 0)) := laterx_get gD (by simp)
  try clear jP jQ jR jA jB jC jD
  refine wp_region_var [5] (fun _ => ⟨6, nine 0, nine e, 48⟩) [] (fun _ => ⟨0, #[], #[], 0⟩) (by kernel_rfl) (by kernel_rfl) (by kernel_rfl) (vsep_new (by kernel_rfl)) (fun e he => absurd he (by simp)) (fun hsep => ?_) (fun e he => absurd he (by simp))
  have HSEP := hid hsep
  clear hsep
  repeat (first | (refine wpV_plain0 HSEP.out (by kernel_rfl) (by rfl) (by rfl) (by kernel_rfl) (by kernel_rfl) (fun K hK => ?_); go_simp; refine hK _ ?_; clear hK K; try go_ints) | (refine wpV_plain0 HSEP.out (by kernel_rfl) (by rfl) (by rfl) (by kernel_rfl) (by kernel_rfl) (fun K hK => ?_); go_simp; (with_reducible refine ⟨_, fun x => G1.out _, hK _ ?_⟩); clear hK K; try go_ints) | (refine wpV_plain0 HSEP.out (by kernel_rfl) (by rfl) (by rfl) (by kernel_rfl) (by kernel_rfl) (fun K hK => ?_); go_simp; (with_reducible refine ⟨_, fun x => M5.out _, hK _ ?_⟩); clear hK K; try go_ints) | (refine wpV_plain0 HSEP.out (by kernel_rfl) (by rfl) (by rfl) (by kernel_rfl) (by kernel_rfl) (fun K hK => ?_); go_simp; (with_reducible refine ⟨_, fun x => M6.out _, hK _ ?_⟩); clear hK K; try go_ints) | (refine wpV_make0 HSEP.out (by kernel_rfl) (by rfl) rfl (by rfl) (by kernel_rfl) (by kernel_rfl) (fun K hK => ⟨fun x => (by first | (go_simp; done) | (go_simp; rfl)), hK _ ?_⟩); clear hK K; try go_ints) | (refine wpV_store0 5 (by rfl) (by rfl) HSEP.out (by rfl) rfl (by kernel_rfl) (fun K hK => ⟨fun g bk_ x cs hg hcs hx => (by clear hK HSEP; rcases hcs with hcs | hcs <;> (rw [hcs] at hx; clear hcs; simp only [over, dstOf, List.getElem?_toArray, List.getElem?_cons_succ, List.getElem?_cons_zero, Option.bind_some, hg]; go_simp; done)), hK _ ?_⟩); clear hK K; try go_ints))
  refine wpGho_nil ?_
  intro gL xL h0L hnL haL hlL
  clear h0L hlL HSEP
  obtain ⟨v5, e5, l5, h5⟩ := hnL 5 (by simp)
  try simp at h5
  simp only [over, dstOf, List.getElem?_toArray, List.getElem?_cons_succ, List.getElem?_cons_zero, Option.bind_some, e5]
  have hxb := laterV_below xL
  have fP := laterx_get gP (by simp) xL
  have fQ := laterx_get gQ (by simp) xL
  have fR := laterx_get gR (by simp) xL
  have fA := laterx_get gA (by simp) xL
  have fB := laterx_get gB (by simp) xL
  have fC := laterx_get gC (by simp) xL
  have fD := laterx_get gD (by simp) xL
  clear hnL haL e5 vP vQ vR vA vB vC vD
  generalize xL.w' = w10 at *
  have b10 := hid (below_to b9.out hxb)
  have s9 := b9.out.size
  clear hxb b9 xL gL
  obtain ⟨E, h_E⟩ : ∃ n_, n_ = v5 := ⟨_, rfl⟩
  subst h_E
  have wE : W.heap.size ≤ E := by omega
  have ePE : (W.heap.size = E) = False := by simp; omega
  have eEP : (E = W.heap.size) = False := by simp; omega
  have eQE : (W.heap.size + 1 = E) = False := by simp; omega
  have eEQ : (E = W.heap.size + 1) = False := by simp; omega
  have eRE : (W.heap.size + 1 + 1 = E) = False := by simp; omega
  have eER : (E = W.heap.size + 1 + 1) = False := by simp; omega
  have eAE : (A = E) = False := by simp; omega
  have eEA : (E = A) = False := by simp; omega
  have eBE : (B = E) = False := by simp; omega
  have eEB : (E = B) = False := by simp; omega
  have eCE : (C = E) = False := by simp; omega
  have eEC : (E = C) = False := by simp; omega
  have eDE : (D = E) = False := by simp; omega
  have eED : (E = D) = False := by simp; omega
  clear l5
  clear gP lP nP mP
  clear gQ lQ nQ mQ
  clear gR lR nR mR
  clear gA lA nA mA
  clear gB lB nB mB
  clear gC lC nC mC
  clear gD lD nD mD
  obtain ⟨gP, lP, nP, mP⟩ := kept fP
  clear fP
  obtain ⟨gQ, lQ, nQ, mQ⟩ := kept fQ
  clear fQ
  obtain ⟨gR, lR, nR, mR⟩ := kept fR
  clear fR
  obtain ⟨gA, lA, nA, mA⟩ := kept fA
  clear fA
  obtain ⟨gB, lB, nB, mB⟩ := kept fB
  clear fB
  obtain ⟨gC, lC, nC, mC⟩ := kept fC
  clear fC
  obtain ⟨gD, lD, nD, mD⟩ := kept fD
  clear fD
  obtain ⟨gE, lE, nE, mE⟩ := kept h5
  clear h5
  try simp only [Act.put, List.setIfInBounds_toArray, List.set_cons_zero, List.set_cons_succ]
  go_wp2_with fail
  try clear jP jQ jR jA jB jC jD jE
  refine (S1.out _).mono ?_
  rintro e w11 ⟨rfl, hb11⟩
  have kP := Kept.on (kept (b := W.heap.size) (o := .cells (rpt x y z) 50 (0, 0)) (by go_simp)) hb11
  have kQ := Kept.on (kept (b := W.heap.size + 1) (o := .cells (rpt x' y' z') 50 (0, 0)) (by go_simp)) hb11
  have kR := Kept.on (kept (b := W.heap.size + 1 + 1) (o := .cells (rpt 0 0 0) 50 (0, 0)) (by go_simp)) hb11
  have kA := Kept.on (kept (b := A) (o := .cells (nine a) 48 (0, 0)) (by go_simp)) hb11
  have kB := Kept.on (kept (b := B) (o := .cells (nine b) 48 (0, 0)) (by go_simp)) hb11
  have kC := Kept.on (kept (b := C) (o := .cells (nine c) 48 (0, 0)) (by go_simp)) hb11
  have kD := Kept.on (kept (b := D) (o := .cells (nine d) 48 (0, 0)) (by go_simp)) hb11
  have kE := Kept.on (kept (b := E) (o := .cells (nine e) 48 (0, 0)) (by go_simp)) hb11
  have b11 : Hid (Below W.heap.size W w11) := below_to (by repeat (first | exact Below.refl _ _ | exact below_new _ | exact b10.out | assumption | refine Below.drew ?_ | refine Below.drewN ?_ _ | refine below_alloc ?_ _ | refine below_blk' ?_ (by omega) _)) hb11
  clear hb11
  try clear gP lP nP mP
  obtain ⟨gP, lP, nP, mP⟩ := kP
  try clear gQ lQ nQ mQ
  obtain ⟨gQ, lQ, nQ, mQ⟩ := kQ
  try clear gR lR nR mR
  obtain ⟨gR, lR, nR, mR⟩ := kR
  try clear gA lA nA mA
  obtain ⟨gA, lA, nA, mA⟩ := kA
  try clear gB lB nB mB
  obtain ⟨gB, lB, nB, mB⟩ := kB
  try clear gC lC nC mC
  obtain ⟨gC, lC, nC, mC⟩ := kC
  try clear gD lD nD mD
  obtain ⟨gD, lD, nD, mD⟩ := kD
  try clear gE lE nE mE
  obtain ⟨gE, lE, nE, mE⟩ := kE
  clear b10
  go_upto_region 7 with (fail)
  obtain ⟨F, hF⟩ : ∃ b, w11.heap.size = b := ⟨_, rfl⟩
  have wF : W.heap.size ≤ F := by rw [← hF]; exact b11.out.size
  have ePF : (W.heap.size = F) = False := by rw [← hF]; exact nP
  have eFP : (F = W.heap.size) = False := by rw [← hF]; exact mP
  have eQF : (W.heap.size + 1 = F) = False := by rw [← hF]; exact nQ
  have eFQ : (F = W.heap.size + 1) = False := by rw [← hF]; exact mQ
  have eRF : (W.heap.size + 1 + 1 = F) = False := by rw [← hF]; exact nR
  have eFR : (F = W.heap.size + 1 + 1) = False := by rw [← hF]; exact mR
  have eAF : (A = F) = False := by rw [← hF]; exact nA
  have eFA : (F = A) = False := by rw [← hF]; exact mA
  have eBF : (B = F) = False := by rw [← hF]; exact nB
  have eFB : (F = B) = False := by rw [← hF]; exact mB
  have eCF : (C = F) = False := by rw [← hF]; exact nC
  have eFC : (F = C) = False := by rw [← hF]; exact mC
  have eDF : (D = F) = False := by rw [← hF]; exact nD
  have eFD : (F = D) = False := by rw [← hF]; exact mD
  have eEF : (E = F) = False := by rw [← hF]; exact nE
  have eFE : (F = E) = False := by rw [← hF]; exact mE
  obtain ⟨w12, hw12⟩ : ∃ w12, w11.alloc (.cells (nine f) 48) = w12 := ⟨_, rfl⟩
  have kP := kept (show hget w12 (W.heap.size) = some (.cells (rpt x y z) 50 (0, 0)) by rw [← hw12]; clear hw12; go_simp)
  have kQ := kept (show hget w12 (W.heap.size + 1) = some (.cells (rpt x' y' z') 50 (0, 0)) by rw [← hw12]; clear hw12; go_simp)
  have kR := kept (show hget w12 (W.heap.size + 1 + 1) = some (.cells (rpt 0 0 0) 50 (0, 0)) by rw [← hw12]; clear hw12; go_simp)
  have kA := kept (show hget w12 (A) = some (.cells (nine a) 48 (0, 0)) by rw [← hw12]; clear hw12; go_simp)
  have kB := kept (show hget w12 (B) = some (.cells (nine b) 48 (0, 0)) by rw [← hw12]; clear hw12; go_simp)
  have kC := kept (show hget w12 (C) = some (.cells (nine c) 48 (0, 0)) by rw [← hw12]; clear hw12; go_simp)
  have kD := kept (show hget w12 (D) = some (.cells (nine d) 48 (0, 0)) by rw [← hw12]; clear hw12; go_simp)
  have kE := kept (show hget w12 (E) = some (.cells (nine e) 48 (0, 0)) by rw [← hw12]; clear hw12; go_simp)
  have kF := kept (show hget w12 (w11.heap.size) = some (.cells (nine f) 48) by rw [← hw12]; clear hw12; go_simp)
  have b12 : Hid (Below W.heap.size W w12) := by rw [← hw12]; repeat (first | exact Below.refl _ _ | exact below_new _ | exact b11.out | assumption | refine Below.drew ?_ | refine Below.drewN ?_ _ | refine below_alloc ?_ _ | refine below_blk' ?_ (by omega) _)
  rw [hw12]
  clear hw12
  try clear gP lP nP mP
  try clear jP
  have jP := kP.later
  obtain ⟨gP, lP, nP, mP⟩ := kP
  try clear gQ lQ nQ mQ
  try clear jQ
  have jQ := kQ.later
  obtain ⟨gQ, lQ, nQ, mQ⟩ := kQ
  try clear gR lR nR mR
  try clear jR
  have jR := kR.later
  obtain ⟨gR, lR, nR, mR⟩ := kR
  try clear gA lA nA mA
  try clear jA
  have jA := kA.later
  obtain ⟨gA, lA, nA, mA⟩ := kA
  try clear gB lB nB mB
  try clear jB
  have jB := kB.later
  obtain ⟨gB, lB, nB, mB⟩ := kB
  try clear gC lC nC mC
  try clear jC
  have jC := kC.later
  obtain ⟨gC, lC, nC, mC⟩ := kC
  try clear gD lD nD mD
  try clear jD
  have jD := kD.later
  obtain ⟨gD, lD, nD, mD⟩ := kD
  try clear gE lE nE mE
  try clear jE
  have jE := kE.later
  obtain ⟨gE, lE, nE, mE⟩ := kE
  try clear gF lF nF mF
  try clear jF
  have jF := kF.later
  obtain ⟨gF, lF, nF, mF⟩ := kF
  clear b11
  rw [hF] at *
  clear hF
  go_wp2_with fail
  try clear jP jQ jR jA jB jC jD jE jF
  refine (A1.out _).mono ?_
  rintro e w13 ⟨rfl, hb13⟩
  have kP := Kept.on (kept (b := W.heap.size) (o := .cells (rpt x y z) 50 (0, 0)) (by go_simp)) hb13
  have kQ := Kept.on (kept (b := W.heap.size + 1) (o := .cells (rpt x' y' z') 50 (0, 0)) (by go_simp)) hb13
  have kR := Kept.on (kept (b := W.heap.size + 1 + 1) (o := .cells (rpt 0 0 0) 50 (0, 0)) (by go_simp)) hb13
  have kA := Kept.on (kept (b := A) (o := .cells (nine a) 48 (0, 0)) (by go_simp)) hb13
  have kB := Kept.on (kept (b := B) (o := .cells (nine b) 48 (0, 0)) (by go_simp)) hb13
  have kC := Kept.on (kept (b := C) (o := .cells (nine c) 48 (0, 0)) (by go_simp)) hb13
  have kD := Kept.on (kept (b := D) (o := .cells (nine d) 48 (0, 0)) (by go_simp)) hb13
  have kE := Kept.on (kept (b := E) (o := .cells (nine e) 48 (0, 0)) (by go_simp)) hb13
  have kF := Kept.on (kept (b := F) (o := .cells (nine f) 48 (0, 0)) (by go_simp)) hb13
  have b13 : Hid (Below W.heap.size W w13) := below_to (by repeat (first | exact Below.refl _ _ | exact below_new _ | exact b12.out | assumption | refine Below.drew ?_ | refine Below.drewN ?_ _ | refine below_alloc ?_ _ | refine below_blk' ?_ (by omega) _)) hb13
  clear hb13
  try clear gP lP nP mP
  obtain ⟨gP, lP, nP, mP⟩ := kP
  try clear gQ lQ nQ mQ
  obtain ⟨gQ, lQ, nQ, mQ⟩ := kQ
  try clear gR lR nR mR
  obtain ⟨gR, lR, nR, mR⟩ := kR
  try clear gA lA nA mA
  obtain ⟨gA, lA, nA, mA⟩ := kA
  try clear gB lB nB mB
  obtain ⟨gB, lB, nB, mB⟩ := kB
  try clear gC lC nC mC
  obtain ⟨gC, lC, nC, mC⟩ := kC
  try clear gD lD nD mD
  obtain ⟨gD, lD, nD, mD⟩ := kD
  try clear gE lE nE mE
  obtain ⟨gE, lE, nE, mE⟩ := kE
  try clear gF lF nF mF
  obtain ⟨gF, lF, nF, mF⟩ := kF
  clear b12
  go_upto_region 8 with (fail)
  obtain ⟨G, hG⟩ : ∃ b, w13.heap.size = b := ⟨_, rfl⟩
  have wG : W.heap.size ≤ G := by rw [← hG]; exact b13.out.size
  have ePG : (W.heap.size = G) = False := by rw [← hG]; exact nP
  have eGP : (G = W.heap.size) = False := by rw [← hG]; exact mP
  have eQG : (W.heap.size + 1 = G) = False := by rw [← hG]; exact nQ
  have eGQ : (G = W.heap.size + 1) = False := by rw [← hG]; exact mQ
  have eRG : (W.heap.size + 1 + 1 = G) = False := by rw [← hG]; exact nR
  have eGR : (G = W.heap.size + 1 + 1) = False := by rw [← hG]; exact mR
  have eAG : (A = G) = False := by rw [← hG]; exact nA
  have eGA : (G = A) = False := by rw [← hG]; exact mA
  have eBG : (B = G) = False := by rw [← hG]; exact nB
  have eGB : (G = B) = False := by rw [← hG]; exact mB
  have eCG : (C = G) = False := by rw [← hG]; exact nC
  have eGC : (G = C) = False := by rw [← hG]; exact mC
  have eDG : (D = G) = False := by rw [← hG]; exact nD
  have eGD : (G = D) = False := by rw [← hG]; exact mD
  have eEG : (E = G) = False := by rw [← hG]; exact nE
  have eGE : (G = E) = False := by rw [← hG]; exact mE
  have eFG : (F = G) = False := by rw [← hG]; exact nF
  have eGF : (G = F) = False := by rw [← hG]; exact mF
  obtain ⟨w14, hw14⟩ : ∃ w14, w13.alloc (.cells (nine g) 48) = w14 := ⟨_, rfl⟩
  have kP := kept (show hget w14 (W.heap.size) = some (.cells (rpt x y z) 50 (0, 0)) by rw [← hw14]; clear hw14; go_simp)
  have kQ := kept (show hget w14 (W.heap.size + 1) = some (.cells (rpt x' y' z') 50 (0, 0)) by rw [← hw14]; clear hw14; go_simp)
  have kR := kept (show hget w14 (W.heap.size + 1 + 1) = some (.cells (rpt 0 0 0) 50 (0, 0)) by rw [← hw14]; clear hw14; go_simp)
  have kA := kept (show hget w14 (A) = some (.cells (nine a) 48 (0, 0)) by rw [← hw14]; clear hw14; go_simp)
  have kB := kept (show hget w14 (B) = some (.cells (nine b) 48 (0, 0)) by rw [← hw14]; clear hw14; go_simp)
  have kC := kept (show hget w14 (C) = some (.cells (nine c) 48 (0, 0)) by rw [← hw14]; clear hw14; go_simp)
  have kD := kept (show hget w14 (D) = some (.cells (nine d) 48 (0, 0)) by rw [← hw14]; clear hw14; go_simp)
  have kE := kept (show hget w14 (E) = some (.cells (nine e) 48 (0, 0)) by rw [← hw14]; clear hw14; go_simp)
  have kF := kept (show hget w14 (F) = some (.cells (nine f) 48 (0, 0)) by rw [← hw14]; clear hw14; go_simp)
  have kG := kept (show hget w14 (w13.heap.size) = some (.cells (nine g) 48) by rw [← hw14]; clear hw14; go_simp)
  have b14 : Hid (Below W.heap.size W w14) := by rw [← hw14]; repeat (first | exact Below.refl _ _ | exact below_new _ | exact b13.out | assumption | refine Below.drew ?_ | refine Below.drewN ?_ _ | refine below_alloc ?_ _ | refine below_blk' ?_ (by omega) _)
  rw [hw14]
  clear hw14
  try clear gP lP nP mP
  try clear jP
  have jP := kP.later
  obtain ⟨gP, lP, nP, mP⟩ := kP
  try clear gQ lQ nQ mQ
  try clear jQ
  have jQ := kQ.later
  obtain ⟨gQ, lQ, nQ, mQ⟩ := kQ
  try clear gR lR nR mR
  try clear jR
  have jR := kR.later
  obtain ⟨gR, lR, nR, mR⟩ := kR
  try clear gA lA nA mA
  try clear jA
  have jA := kA.later
  obtain ⟨gA, lA, nA, mA⟩ := kA
  try clear gB lB nB mB
  try clear jB
  have jB := kB.later
  obtain ⟨gB, lB, nB, mB⟩ := kB
  try clear gC lC nC mC
  try clear jC
  have jC := kC.later
  obtain ⟨gC, lC, nC, mC⟩ := kC
  try clear gD lD nD mD
  try clear jD
  have jD := kD.later
  obtain ⟨gD, lD, nD, mD⟩ := kD
  try clear gE lE nE mE
  try clear jE
  have jE := kE.later
  obtain ⟨gE, lE, nE, mE⟩ := kE
  try clear gF lF nF mF
  try clear jF
  have jF := kF.later
  obtain ⟨gF, lF, nF, mF⟩ := kF
  try clear gG lG nG mG
  try clear jG
  have jG := kG.later
  obtain ⟨gG, lG, nG, mG⟩ := kG
  clear b13
  rw [hG] at *
  clear hG
  clear G1 M5 M6 S1 A1
  have vP : ∀ x_ : LaterV w14, hget x_.w' (W.heap.size) = some (.cells (rpt x y z) 50 (0, 0)) := laterx_get gP (by simp)
  have vQ : ∀ x_ : LaterV w14, hget x_.w' (W.heap.size + 1) = some (.cells (rpt x' y' z') 50 (0, 0)) := laterx_get gQ (by simp)
  have vR : ∀ x_ : LaterV w14, hget x_.w' (W.heap.size + 1 + 1) = some (.cells (rpt 0 0 0) 50 (0, 0)) := laterx_get gR (by simp)
  have vA : ∀ x_ : LaterV w14, hget x_.w' (A) = some (.cells (nine a) 48 (0, 0)) := laterx_get gA (by simp)
  have vB : ∀ x_ : LaterV w14, hget x_.w' (B) = some (.cells (nine b) 48 (0, 0)) := laterx_get gB (by simp)
  have vC : ∀ x_ : LaterV w14, hget x_.w' (C) = some (.cells (nine c) 48 (0, 0)) := laterx_get gC (by simp)
  have vD : ∀ x_ : LaterV w14, hget x_.w' (D) = some (.cells (nine d) 48 (0, 0)) := laterx_get gD (by simp)
  have vE : ∀ x_ : LaterV w14, hget x_.w' (E) = some (.cells (nine e) 48 (0, 0)) := laterx_get gE (by simp)
  have vF : ∀ x_ : LaterV w14, hget x_.w' (F) = some (.cells (nine f) 48 (0, 0)) := laterx_get gF (by simp)
  have vG : ∀ x_ : LaterV w14, hget x_.w' (G) = some (.cells (nine g) 48 (0, 0)) := laterx_get gG (by simp)
  try clear jP jQ jR jA jB jC jD jE jF jG
  refine wp_region_var [15] (fun _ => ⟨16, nine 0, nine h, 48⟩) [] (fun _ => ⟨0, #[], #[], 0⟩) (by kernel_rfl) (by kernel_rfl) (by kernel_rfl) (vsep_new (by kernel_rfl)) (fun e he => absurd he (by simp)) (fun hsep => ?_) (fun e he => absurd he (by simp))
  have HSEP := hid hsep
  clear hsep
  repeat (first | (refine wpV_plain0 HSEP.out (by kernel_rfl) (by rfl) (by rfl) (by kernel_rfl) (by kernel_rfl) (fun K hK => ?_); go_simp; refine hK _ ?_; clear hK K; try go_ints) | (refine wpV_plain0 HSEP.out (by kernel_rfl) (by rfl) (by rfl) (by kernel_rfl) (by kernel_rfl) (fun K hK => ?_); go_simp; (with_reducible refine ⟨_, fun x => A2.out _, hK _ ?_⟩); clear hK K; try go_ints) | (refine wpV_plain0 HSEP.out (by kernel_rfl) (by rfl) (by rfl) (by kernel_rfl) (by kernel_rfl) (fun K hK => ?_); go_simp; (with_reducible refine ⟨_, fun x => A3.out _, hK _ ?_⟩); clear hK K; try go_ints) | (refine wpV_plain0 HSEP.out (by kernel_rfl) (by rfl) (by rfl) (by kernel_rfl) (by kernel_rfl) (fun K hK => ?_); go_simp; (with_reducible refine ⟨_, fun x => M7.out _, hK _ ?_⟩); clear hK K; try go_ints) | (refine wpV_plain0 HSEP.out (by kernel_rfl) (by rfl) (by rfl) (by kernel_rfl) (by kernel_rfl) (fun K hK => ?_); go_simp; (with_reducible refine ⟨_, fun x => S2.out _, hK _ ?_⟩); clear hK K; try go_ints) | (refine wpV_plain0 HSEP.out (by kernel_rfl) (by rfl) (by rfl) (by kernel_rfl) (by kernel_rfl) (fun K hK => ?_); go_simp; (with_reducible refine ⟨_, fun x => S3.out _, hK _ ?_⟩); clear hK K; try go_ints) | (refine wpV_make0 HSEP.out (by kernel_rfl) (by rfl) rfl (by rfl) (by kernel_rfl) (by kernel_rfl) (fun K hK => ⟨fun x => (by first | (go_simp; done) | (go_simp; rfl)), hK _ ?_⟩); clear hK K; try go_ints) | (refine wpV_store0 15 (by rfl) (by rfl) HSEP.out (by rfl) rfl (by kernel_rfl) (fun K hK => ⟨fun g bk_ x cs hg hcs hx => (by clear hK HSEP; rcases hcs with hcs | hcs <;> (rw [hcs] at hx; clear hcs; simp only [over, dstOf, List.getElem?_toArray, List.getElem?_cons_succ, List.getElem?_cons_zero, Option.bind_some, hg]; go_simp; done)), hK _ ?_⟩); clear hK K; try go_ints))
  refine wpGho_nil ?_
  intro gL xL h0L hnL haL hlL
  clear h0L hlL HSEP
  obtain ⟨v15, e15, l15, h15⟩ := hnL 15 (by simp)
  try simp at h15
  simp only [over, dstOf, List.getElem?_toArray, List.getElem?_cons_succ, List.getElem?_cons_zero, Option.bind_some, e15]
  have hxb := laterV_below xL
  have fP := laterx_get gP (by simp) xL
  have fQ := laterx_get gQ (by simp) xL
  have fR := laterx_get gR (by simp) xL
  have fA := laterx_get gA (by simp) xL
  have fB := laterx_get gB (by simp) xL
  have fC := laterx_get gC (by simp) xL
  have fD := laterx_get gD (by simp) xL
  have fE := laterx_get gE (by simp) xL
  have fF := laterx_get gF (by simp) xL
  have fG := laterx_get gG (by simp) xL
  clear hnL haL e15 vP vQ vR vA vB vC vD vE vF vG
  generalize xL.w' = w15 at *
  have b15 := hid (below_to b14.out hxb)
  have s14 := b14.out.size
  clear hxb b14 xL gL
  obtain ⟨H, h_H⟩ : ∃ n_, n_ = v15 := ⟨_, rfl⟩
  subst h_H
  have wH : W.heap.size ≤ H := by omega
  have ePH : (W.heap.size = H) = False := by simp; omega
  have eHP : (H = W.heap.size) = False := by simp; omega
  have eQH : (W.heap.size + 1 = H) = False := by simp; omega
  have eHQ : (H = W.heap.size + 1) = False := by simp; omega
  have eRH : (W.heap.size + 1 + 1 = H) = False := by simp; omega
  have eHR : (H = W.heap.size + 1 + 1) = False := by simp; omega
  have eAH : (A = H) = False := by simp; omega
  have eHA : (H = A) = False := by simp; omega
  have eBH : (B = H) = False := by simp; omega
  have eHB : (H = B) = False := by simp; omega
  have eCH : (C = H) = False := by simp; omega
  have eHC : (H = C) = False := by simp; omega
  have eDH : (D = H) = False := by simp; omega
  have eHD : (H = D) = False := by simp; omega
  have eEH : (E = H) = False := by simp; omega
  have eHE : (H = E) = False := by simp; omega
  have eFH : (F = H) = False := by simp; omega
  have eHF : (H = F) = False := by simp; omega
  have eGH : (G = H) = False := by simp; omega
  have eHG : (H = G) = False := by simp; omega
  clear l15
  clear gP lP nP mP
  clear gQ lQ nQ mQ
  clear gR lR nR mR
  clear gA lA nA mA
  clear gB lB nB mB
  clear gC lC nC mC
  clear gD lD nD mD
  clear gE lE nE mE
  clear gF lF nF mF
  clear gG lG nG mG
  obtain ⟨gP, lP, nP, mP⟩ := kept fP
  clear fP
  obtain ⟨gQ, lQ, nQ, mQ⟩ := kept fQ
  clear fQ
  obtain ⟨gR, lR, nR, mR⟩ := kept fR
  clear fR
  obtain ⟨gA, lA, nA, mA⟩ := kept fA
  clear fA
  obtain ⟨gB, lB, nB, mB⟩ := kept fB
  clear fB
  obtain ⟨gC, lC, nC, mC⟩ := kept fC
  clear fC
  obtain ⟨gD, lD, nD, mD⟩ := kept fD
  clear fD
  obtain ⟨gE, lE, nE, mE⟩ := kept fE
  clear fE
  obtain ⟨gF, lF, nF, mF⟩ := kept fF
  clear fF
  obtain ⟨gG, lG, nG, mG⟩ := kept fG
  clear fG
  obtain ⟨gH, lH, nH, mH⟩ := kept h15
  clear h15
  try simp only [Act.put, List.setIfInBounds_toArray, List.set_cons_zero, List.set_cons_succ]
  go_upto_region 9 with (fail)
  clear A2 A3 M7 S2 S3
  have jP := Kept.later (kept gP)
  have jQ := Kept.later (kept gQ)
  have jR := Kept.later (kept gR)
  have jA := Kept.later (kept gA)
  have jB := Kept.later (kept gB)
  have jC := Kept.later (kept gC)
  have jD := Kept.later (kept gD)
  have jE := Kept.later (kept gE)
  have jF := Kept.later (kept gF)
  have jG := Kept.later (kept gG)
  have jH := Kept.later (kept gH)
  refine wp_region_later_tail 16 (by kernel_rfl) (by kernel_rfl) ?_
  simp only [List.take_succ_cons, List.take_zero, List.drop_succ_cons, List.drop_zero]
  repeat ((go_big_quiet_step ((first | (go_at_call 44; first | with_reducible exact calls_later (M8.out _) | with_reducible exact calls_later (M9.out _) | with_reducible exact calls_later (Ma.out _) | with_reducible exact calls_later (Mb.out _) | with_reducible exact calls_later (Mc.out _)) | (go_at_call 75; with_reducible exact calls_later (A4.out _))))))
  refine wpQuiet_nil ?_
  intro wL hwL
  obtain ⟨⟨w8, hL⟩, e8⟩ := hwL
  change wL = w8 at e8
  subst e8
  obtain ⟨gR, lR, nR, mR⟩ := kept (jR ⟨_, hL⟩)
  go_wp2_with fail
  refine bodyPost_ret (v := .agg (rpt (rm (rm a f) h) (rm (rm a g) (ra d c)) (rm f g))) (results_cell_row Tryz.results37 _ _ (W.heap.size + 1 + 1) 50 (rpt (rm (rm a f) h) (rm (rm a g) (ra d c)) (rm f g)) (0, 0) _ (by rfl) (by rw [← hget_eq]; go_simp) Tryz.underlying50 rfl (by rw [info_RPt]; go_simp)) rfl ?_
  exact ⟨rfl, below_blk' (below_to b15.out hL) (by omega) _⟩
set_option maxRecDepth 100000 in
theorem radd_pt (s u : R3) (W : World) (h : s.bd) (k : u.bd) : Calls Tryz.prog 37 #[rv s, rv u] W fun r w' => r = .returned (rv (s.add u)) ∧ Below W.heap.size W w' :=
  radd_core s.x s.y s.z u.x u.y u.z _ _ _ _ _ _ _ _ W h.x h.y h.z k.x k.y k.z rfl rfl rfl rfl rfl rfl rfl rfl

end Go.Proofs.YtceljjnohjnepaaGreatDoor

namespace Go.Proofs.YtceljjnohjnepaaGreatDoor
open Go Go.RowKit DG
attribute [local go_sem ↓] exl_Num exs_Num exl_RPt exs_RPt exb_RPt
                    attribute [local go_sem] ldm_Num str_Num ldr_RPt str_RPt to_nine0 rpt_zero bld_rpt bld_rpt0

set_option maxRecDepth 100000 in
theorem digs_bit {n j : Nat} (hn : n < p2) (hj : j < 256) : bits .and .u8 ((((digs 256 n 32).getD (j / 8) 0 : Nat) : Int) / (2 : Int) ^ (j % 8)) 1 = ((bitN n j : Nat) : Int) := by
  rw [and1_shr8 _ _ (by rw [digs_getD n (by omega)]; exact Nat.mod_lt _ (by decide))]
  have h1 := bit_of_bytes (natBytes n 32) j (by rw [natBytes_length]; omega)
  rw [bytesNat_natBytes, Nat.mod_eq_of_lt (Nat.lt_of_lt_of_eq hn (by decide)), natBytes_getD _ _ _ (by omega)] at h1
  unfold bitN
  rw [h1]

set_option maxRecDepth 100000 in
set_option maxHeartbeats 4000000 in
theorem rtimes_v (s : R3) (n : Nat) (W : World) (hs : s.bd) (hn : n < p2) : Calls Tryz.prog 17 #[rv s, .agg (ints .u8 (digs 256 n 32))] W fun r w' => r = .returned (rv (s.times n)) ∧ Below W.heap.size W w' := by
  obtain ⟨z, hz⟩ : ∃ z, R3.zero = z := ⟨_, rfl⟩
  have Z1 := hid (fun w => hz ▸ rzero_any w)
  have HZ := hid hz
  clear hz
  go_enter Tryz.func17, Tryz.ntmps17
  go_upto_region 1 with (fail)
  obtain ⟨w1, hw1⟩ : ∃ w1, ((W.alloc (.cells (rpt s.x s.y s.z) 50)).alloc (.cells (ints .u8 (digs 256 n 32)) 44)).alloc (.cells (rpt 0 0 0) 50) = w1 := ⟨_, rfl⟩
  have kS := kept (show hget w1 (W.heap.size) = some (.cells (rpt s.x s.y s.z) 50 (0, 0)) by rw [← hw1]; clear hw1; go_simp)
  have kN := kept (show hget w1 (W.heap.size + 1) = some (.cells (ints .u8 (digs 256 n 32)) 44 (0, 0)) by rw [← hw1]; clear hw1; go_simp)
  have kR := kept (show hget w1 (W.heap.size + 1 + 1) = some (.cells (rpt 0 0 0) 50 (0, 0)) by rw [← hw1]; clear hw1; go_simp)
  have b1 : Hid (Below W.heap.size W w1) := by rw [← hw1]; repeat (first | exact Below.refl _ _ | exact below_new _ | assumption | refine Below.drew ?_ | refine Below.drewN ?_ _ | refine below_alloc ?_ _ | refine below_blk' ?_ (by omega) _)
  rw [hw1]
  clear hw1
  try clear gS lS nS mS
  try clear jS
  have jS := kS.later
  obtain ⟨gS, lS, nS, mS⟩ := kS
  try clear gN lN nN mN
  try clear jN
  have jN := kN.later
  obtain ⟨gN, lN, nN, mN⟩ := kN
  try clear gR lR nR mR
  try clear jR
  have jR := kR.later
  obtain ⟨gR, lR, nR, mR⟩ := kR
  go_wp2_with fail
  try clear jS jN jR
  refine (Z1.out _).mono ?_
  rintro e w2 ⟨rfl, hb2⟩
  have kS := Kept.on (kept (b := W.heap.size) (o := .cells (rpt s.x s.y s.z) 50 (0, 0)) (by go_simp)) hb2
  have kN := Kept.on (kept (b := W.heap.size + 1) (o := .cells (ints .u8 (digs 256 n 32)) 44 (0, 0)) (by go_simp)) hb2
  have kR := Kept.on (kept (b := W.heap.size + 1 + 1) (o := .cells (rpt 0 0 0) 50 (0, 0)) (by go_simp)) hb2
  have b2 : Hid (Below W.heap.size W w2) := below_to (by repeat (first | exact Below.refl _ _ | exact below_new _ | exact b1.out | assumption | refine Below.drew ?_ | refine Below.drewN ?_ _ | refine below_alloc ?_ _ | refine below_blk' ?_ (by omega) _)) hb2
  clear hb2
  try clear gS lS nS mS
  obtain ⟨gS, lS, nS, mS⟩ := kS
  try clear gN lN nN mN
  obtain ⟨gN, lN, nN, mN⟩ := kN
  try clear gR lR nR mR
  obtain ⟨gR, lR, nR, mR⟩ := kR
  clear b1
  go_upto_region 2 with (fail)
  obtain ⟨V, hV⟩ : ∃ b, w2.heap.size = b := ⟨_, rfl⟩
  have wV : W.heap.size ≤ V := by rw [← hV]; exact b2.out.size
  have eSV : (W.heap.size = V) = False := by rw [← hV]; exact nS
  have eVS : (V = W.heap.size) = False := by rw [← hV]; exact mS
  have eNV : (W.heap.size + 1 = V) = False := by rw [← hV]; exact nN
  have eVN : (V = W.heap.size + 1) = False := by rw [← hV]; exact mN
  have eRV : (W.heap.size + 1 + 1 = V) = False := by rw [← hV]; exact nR
  have eVR : (V = W.heap.size + 1 + 1) = False := by rw [← hV]; exact mR
  obtain ⟨w3, hw3⟩ : ∃ w3, w2.alloc (.cells (rpt z.x z.y z.z) 50) = w3 := ⟨_, rfl⟩
  have kS := kept (show hget w3 (W.heap.size) = some (.cells (rpt s.x s.y s.z) 50 (0, 0)) by rw [← hw3]; clear hw3; go_simp)
  have kN := kept (show hget w3 (W.heap.size + 1) = some (.cells (ints .u8 (digs 256 n 32)) 44 (0, 0)) by rw [← hw3]; clear hw3; go_simp)
  have kR := kept (show hget w3 (W.heap.size + 1 + 1) = some (.cells (rpt 0 0 0) 50 (0, 0)) by rw [← hw3]; clear hw3; go_simp)
  have kV := kept (show hget w3 (w2.heap.size) = some (.cells (rpt z.x z.y z.z) 50) by rw [← hw3]; clear hw3; go_simp)
  have b3 : Hid (Below W.heap.size W w3) := by rw [← hw3]; repeat (first | exact Below.refl _ _ | exact below_new _ | exact b2.out | assumption | refine Below.drew ?_ | refine Below.drewN ?_ _ | refine below_alloc ?_ _ | refine below_blk' ?_ (by omega) _)
  rw [hw3]
  clear hw3
  try clear gS lS nS mS
  try clear jS
  have jS := kS.later
  obtain ⟨gS, lS, nS, mS⟩ := kS
  try clear gN lN nN mN
  try clear jN
  have jN := kN.later
  obtain ⟨gN, lN, nN, mN⟩ := kN
  try clear gR lR nR mR
  try clear jR
  have jR := kR.later
  obtain ⟨gR, lR, nR, mR⟩ := kR
  try clear gV lV nV mV
  try clear jV
  have jV := kV.later
  obtain ⟨gV, lV, nV, mV⟩ := kV
  clear b2
  rw [hV] at *
  clear hV
  go_wp2_with fail
  clear jS jN jR jV lS nS mS lN nN mN nR mR lV nV mV
  go_loopw [6] (fun i wr => ∃ k : Nat, ∃ q : R3, k ≤ 256 ∧ i = .int .i64 (255 - (k : Int)) ∧ R3.timesN s n k = q ∧ hget wr V = some (.cells (rpt q.x q.y q.z) 50 (0, 0)) ∧ hget wr W.heap.size = some (.cells (rpt s.x s.y s.z) 50 (0, 0)) ∧ hget wr (W.heap.size + 1) = some (.cells (ints .u8 (digs 256 n 32)) 44 (0, 0)) ∧ hget wr (W.heap.size + 1 + 1) = some (.cells (rpt 0 0 0) 50 (0, 0)) ∧ Below W.heap.size W wr) (fun i _ => (intOf i + 1).toNat)
  case atStart => exact ⟨0, z, by omega, rfl, HZ.out, gV, gS, gN, gR, b3.out⟩
  case round =>
    clear gV gS gN gR b3 Z1
    obtain ⟨k, q, hk, rfl, hq, fV, fS, fN, fR, hb3⟩ := hrel
    obtain ⟨w20, hw20⟩ : ∃ w20, w20 = wr := ⟨_, rfl⟩
    subst hw20
    have HQ := hid hq
    have b3 := hid hb3
    clear hq hb3
    by_cases hlt : k < 256
    · obtain ⟨j, hj⟩ : ∃ j : Nat, j = 255 - k := ⟨_, rfl⟩
      have hjk : k + j = 255 := by omega
      have hjI : (255 : Int) - (k : Int) = (j : Int) := by omega
      rw [hjI]
      have hge : decide ((0 : Int) ≤ (j : Int)) = true := decide_eq_true (by omega)
      have hi1 : 0 ≤ (j : Int) / 8 := by omega
      have hi2 : (j : Int) / 8 < 32 := by omega
      have hi3 : ((j : Int) / 8).toNat = j / 8 := by omega
      have hj255 : 255 - k = j := hj.symm
      have HJ := hid hj255
      have HJK := hid hjk
      clear hj hj255 hjk hjI
      have xm := digs_bit hn (j := j) (by have := HJK.out; omega)
      have ym := bitN_lt n j
      obtain ⟨x, hx⟩ : ∃ x, bitN n j = x := ⟨_, rfl⟩
      rw [hx] at xm ym
      obtain ⟨y, hy⟩ : ∃ y, (digs 256 n 32).getD (j / 8) 0 = y := ⟨_, rfl⟩
      rw [hy] at xm
      have HX := hid hx
      have HY := hid hy
      clear hx hy
      have hcnt : (j : Int) - 1 = 255 - ((k + 1 : Nat) : Int) := by have := HJK.out; omega
      have hwr : IntKind.i64.wrap ((j : Int) - 1) = (j : Int) - 1 := IntWalk.i64_in _ (by have := HJK.out; omega)
      have hnext : R3.timesN s n (k + 1) = if x = 1 then (q.add q).add s else q.add q := by
        show (if bitN n (255 - k) = 1 then ((R3.timesN s n k).add (R3.timesN s n k)).add s else (R3.timesN s n k).add (R3.timesN s n k)) = _
        rw [HQ.out, HJ.out, HX.out]
      have HCNT := hid hcnt
      have bq : q.bd := HQ.out ▸ R3.timesN_bd hs n k
      have A1 := hid (fun w => radd_pt q q w bq bq)
      have A2 := hid (fun w => radd_pt (q.add q) s w (R3.add_bd q q) hs)
      clear hcnt HX
      obtain ⟨gS, lS, nS, mS⟩ := kept (show hget w20 (W.heap.size) = some (.cells (rpt s.x s.y s.z) 50 (0, 0)) by first | assumption | go_simp)
      obtain ⟨gN, lN, nN, mN⟩ := kept (show hget w20 (W.heap.size + 1) = some (.cells (ints .u8 (digs 256 n 32)) 44 (0, 0)) by first | assumption | go_simp)
      obtain ⟨gR, lR, nR, mR⟩ := kept (show hget w20 (W.heap.size + 1 + 1) = some (.cells (rpt 0 0 0) 50 (0, 0)) by first | assumption | go_simp)
      obtain ⟨gV, lV, nV, mV⟩ := kept (show hget w20 (V) = some (.cells (rpt q.x q.y q.z) 50 (0, 0)) by first | assumption | go_simp)
      clear fV fS fN fR
      go_wp2_with fail
      try clear jS jN jR jV
      refine (A1.out _).mono ?_
      rintro e w21 ⟨rfl, hb21⟩
      have kS := Kept.on (kept (b := W.heap.size) (o := .cells (rpt s.x s.y s.z) 50 (0, 0)) (by go_simp)) hb21
      have kN := Kept.on (kept (b := W.heap.size + 1) (o := .cells (ints .u8 (digs 256 n 32)) 44 (0, 0)) (by go_simp)) hb21
      have kR := Kept.on (kept (b := W.heap.size + 1 + 1) (o := .cells (rpt 0 0 0) 50 (0, 0)) (by go_simp)) hb21
      have kV := Kept.on (kept (b := V) (o := .cells (rpt q.x q.y q.z) 50 (0, 0)) (by go_simp)) hb21
      have b21 : Hid (Below W.heap.size W w21) := below_to (by repeat (first | exact Below.refl _ _ | exact below_new _ | exact b3.out | assumption | refine Below.drew ?_ | refine Below.drewN ?_ _ | refine below_alloc ?_ _ | refine below_blk' ?_ (by omega) _)) hb21
      clear hb21
      try clear gS lS nS mS
      obtain ⟨gS, lS, nS, mS⟩ := kS
      try clear gN lN nN mN
      obtain ⟨gN, lN, nN, mN⟩ := kN
      try clear gR lR nR mR
      obtain ⟨gR, lR, nR, mR⟩ := kR
      try clear gV lV nV mV
      obtain ⟨gV, lV, nV, mV⟩ := kV
      clear b3
      go_upto_region 6 with (fail)
      obtain ⟨q2, hq2⟩ : ∃ q2, q.add q = q2 := ⟨_, rfl⟩
      rw [hq2]
      have A2 := hid (fun w => hq2 ▸ A2.out w)
      rw [hq2] at hnext
      have HN := hid hnext
      clear hnext hq2
      obtain ⟨w22, hw22⟩ : ∃ w22, blk w21 (V) (.cells (rpt q2.x q2.y q2.z) 50 (0, 0)) = w22 := ⟨_, rfl⟩
      have kS := kept (show hget w22 (W.heap.size) = some (.cells (rpt s.x s.y s.z) 50 (0, 0)) by rw [← hw22]; clear hw22; go_simp)
      have kN := kept (show hget w22 (W.heap.size + 1) = some (.cells (ints .u8 (digs 256 n 32)) 44 (0, 0)) by rw [← hw22]; clear hw22; go_simp)
      have kR := kept (show hget w22 (W.heap.size + 1 + 1) = some (.cells (rpt 0 0 0) 50 (0, 0)) by rw [← hw22]; clear hw22; go_simp)
      have kV := kept (show hget w22 (V) = some (.cells (rpt q2.x q2.y q2.z) 50 (0, 0)) by rw [← hw22]; clear hw22; go_simp)
      have b22 : Hid (Below W.heap.size W w22) := by rw [← hw22]; repeat (first | exact Below.refl _ _ | exact below_new _ | exact b21.out | assumption | refine Below.drew ?_ | refine Below.drewN ?_ _ | refine below_alloc ?_ _ | refine below_blk' ?_ (by omega) _)
      rw [hw22]
      clear hw22
      try clear gS lS nS mS
      try clear jS
      have jS := kS.later
      obtain ⟨gS, lS, nS, mS⟩ := kS
      try clear gN lN nN mN
      try clear jN
      have jN := kN.later
      obtain ⟨gN, lN, nN, mN⟩ := kN
      try clear gR lR nR mR
      try clear jR
      have jR := kR.later
      obtain ⟨gR, lR, nR, mR⟩ := kR
      try clear gV lV nV mV
      try clear jV
      have jV := kV.later
      obtain ⟨gV, lV, nV, mV⟩ := kV
      clear b21
      have cN : w22.cell? ⟨W.heap.size + 1, j / 8, none⟩ = some (.int .u8 (y : Int)) := by
        rw [cell_at (show w22.heap[W.heap.size + 1]? = _ from gN), ints_get _ _ (by rw [digs_length]; omega), HY.out]
      obtain rfl | rfl : x = 0 ∨ x = 1 := by omega
      · have t1 : (((0 : Nat) : Int) == 1) = false := rfl
        go_wp2_with fail
        exact ⟨⟨k + 1, q2, by omega, congrArg (Value.int .i64) HCNT.out, HN.out, gV, gS, gN, gR, b22.out⟩, by first | (simp [intOf]; done) | (simp [intOf]; omega)⟩
      · have t1 : (((1 : Nat) : Int) == 1) = true := rfl
        go_wp2_with fail
        clear cN
        try clear jS jN jR jV
        refine (A2.out _).mono ?_
        rintro e w23 ⟨rfl, hb23⟩
        have kS := Kept.on (kept (b := W.heap.size) (o := .cells (rpt s.x s.y s.z) 50 (0, 0)) (by go_simp)) hb23
        have kN := Kept.on (kept (b := W.heap.size + 1) (o := .cells (ints .u8 (digs 256 n 32)) 44 (0, 0)) (by go_simp)) hb23
        have kR := Kept.on (kept (b := W.heap.size + 1 + 1) (o := .cells (rpt 0 0 0) 50 (0, 0)) (by go_simp)) hb23
        have kV := Kept.on (kept (b := V) (o := .cells (rpt q2.x q2.y q2.z) 50 (0, 0)) (by go_simp)) hb23
        have b23 : Hid (Below W.heap.size W w23) := below_to (by repeat (first | exact Below.refl _ _ | exact below_new _ | exact b22.out | assumption | refine Below.drew ?_ | refine Below.drewN ?_ _ | refine below_alloc ?_ _ | refine below_blk' ?_ (by omega) _)) hb23
        clear hb23
        try clear gS lS nS mS
        obtain ⟨gS, lS, nS, mS⟩ := kS
        try clear gN lN nN mN
        obtain ⟨gN, lN, nN, mN⟩ := kN
        try clear gR lR nR mR
        obtain ⟨gR, lR, nR, mR⟩ := kR
        try clear gV lV nV mV
        obtain ⟨gV, lV, nV, mV⟩ := kV
        clear b22
        go_wp2_with fail
        exact ⟨⟨k + 1, q2.add s, by omega, congrArg (Value.int .i64) HCNT.out, HN.out, by go_simp, by go_simp, by go_simp, by go_simp, below_blk' b23.out wV _⟩, by first | (simp [intOf]; done) | (simp [intOf]; omega)⟩
    · have hkn : k = 256 := by omega
      subst hkn
      have hlt2 : decide ((0 : Int) ≤ 255 - ((256 : Nat) : Int)) = false := by decide
      have hq2 : R3.times s n = q := HQ.out
      have HQ2 := hid hq2
      clear hq2 HQ
      have lR := hget_lt fR
      go_wp2_with fail
      refine bodyPost_ret (v := .agg (rpt q.x q.y q.z)) (results_cell_row Tryz.results17 _ _ (W.heap.size + 1 + 1) 50 (rpt q.x q.y q.z) (0, 0) _ (by rfl) (by rw [← hget_eq]; go_simp) Tryz.underlying50 rfl (by rw [info_RPt]; go_simp)) rfl ?_
      exact ⟨by rw [HQ2.out], below_blk' b3.out (by omega) _⟩

end Go.Proofs.YtceljjnohjnepaaGreatDoor

namespace Go.Proofs.YtceljjnohjnepaaGreatDoor
open Go Go.RowKit DG
attribute [local go_sem ↓] exl_Num exs_Num exl_RPt exs_RPt exb_RPt
                    attribute [local go_sem] ldm_Num str_Num ldr_RPt str_RPt to_nine0 rpt_zero bld_rpt bld_rpt0

set_option maxRecDepth 100000 in
set_option maxHeartbeats 4000000 in
theorem rsame_core (x y z x' y' z' a b c d : Nat) (q1 q2 : Bool) (W : World) (hx : x < pP) (hy : y < pP) (hz : z < pP) (hx' : x' < pP) (hy' : y' < pP) (hz' : z' < pP)
    (ha : rm x z' = a) (hb : rm x' z = b) (hc : rm y z' = c) (hd : rm y' z = d) (h1 : decide (a = b) = q1) (h2 : decide (c = d) = q2) :
    Calls Tryz.prog 38 #[.agg (rpt x y z), .agg (rpt x' y' z')] W fun r w' => r = .returned (.bool (q1 && q2)) ∧ Below W.heap.size W w' := by
  have M1 := hid (fun w => ha ▸ rmul_v x z' w hx hz')
  have M2 := hid (fun w => hb ▸ rmul_v x' z w hx' hz)
  have M3 := hid (fun w => hc ▸ rmul_v y z' w hy hz')
  have M4 := hid (fun w => hd ▸ rmul_v y' z w hy' hz)
  have E1 := eqlN a b (ha ▸ rm_lt _ _) (hb ▸ rm_lt _ _)
  have E2 := eqlN c d (hc ▸ rm_lt _ _) (hd ▸ rm_lt _ _)
  rw [h1] at E1
  rw [h2] at E2
  clear ha hb hc hd h1 h2 hx hy hz hx' hy' hz'
  go_enter Tryz.func38, Tryz.ntmps38
  go_upto_region 1 with (fail)
  obtain ⟨w1, hw1⟩ : ∃ w1, (W.alloc (.cells (rpt x y z) 50)).alloc (.cells (rpt x' y' z') 50) = w1 := ⟨_, rfl⟩
  have kA := kept (show hget w1 (W.heap.size) = some (.cells (rpt x y z) 50 (0, 0)) by rw [← hw1]; clear hw1; go_simp)
  have kB := kept (show hget w1 (W.heap.size + 1) = some (.cells (rpt x' y' z') 50 (0, 0)) by rw [← hw1]; clear hw1; go_simp)
  have b1 : Hid (Below W.heap.size W w1) := by rw [← hw1]; repeat (first | exact Below.refl _ _ | exact below_new _ | assumption | refine Below.drew ?_ | refine Below.drewN ?_ _ | refine below_alloc ?_ _ | refine below_blk' ?_ (by omega) _)
  rw [hw1]
  clear hw1
  try clear gA lA nA mA
  try clear jA
  have jA := kA.later
  obtain ⟨gA, lA, nA, mA⟩ := kA
  try clear gB lB nB mB
  try clear jB
  have jB := kB.later
  obtain ⟨gB, lB, nB, mB⟩ := kB
  cases q1
  · refine wp_region_later (by kernel_rfl) (by kernel_rfl) ?_
    repeat ((go_big_quiet_step ((go_at_call 44; first | with_reducible exact calls_later (M1.out _) | with_reducible exact calls_later (M2.out _)))))
    refine wpQuiet_nil ?_
    intro wL hwL
    obtain ⟨⟨w8, hL⟩, e8⟩ := hwL
    change wL = w8 at e8
    subst e8
    have b2 := hid (below_to b1.out hL)
    go_wp2_with fail
    go_ret
    exact ⟨rfl, b2.out⟩
  · refine wp_region_later (by kernel_rfl) (by kernel_rfl) ?_
    repeat ((go_big_quiet_step ((go_at_call 44; first | with_reducible exact calls_later (M1.out _) | with_reducible exact calls_later (M2.out _) | with_reducible exact calls_later (M3.out _) | with_reducible exact calls_later (M4.out _)))))
    refine wpQuiet_nil ?_
    intro wL hwL
    obtain ⟨⟨w8, hL⟩, e8⟩ := hwL
    change wL = w8 at e8
    subst e8
    have b2 := hid (below_to b1.out hL)
    go_wp2_with fail
    go_ret
    exact ⟨by first | rfl | (cases q2 <;> rfl), b2.out⟩
set_option maxRecDepth 100000 in
theorem rsame_v (s u : R3) (W : World) (h : s.bd) (k : u.bd) : Calls Tryz.prog 38 #[rv s, rv u] W fun r w' => r = .returned (.bool (s.same u)) ∧ Below W.heap.size W w' :=
  rsame_core s.x s.y s.z u.x u.y u.z _ _ _ _ _ _ W h.x h.y h.z k.x k.y k.z rfl rfl rfl rfl rfl rfl

end Go.Proofs.YtceljjnohjnepaaGreatDoor
