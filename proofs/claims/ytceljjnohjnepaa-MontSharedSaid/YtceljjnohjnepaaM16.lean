/- Montgomery's curve, the document's: doubles, and sums of two that differ by a known one. A region that draws its order, in which two operations, one behind the other, store into one block that stood before: the law and its steps. -/
import Derived.Test.YtceljjnohjnepaaM15
import Derived.Test.YtceljjnohjnepaaM10
namespace Go.Proofs.Ytceljjnohjnepaa
open Go Go.RowKit DG

/-- A point of the document's by two numbers. -/
def rmp (x z : Nat) : Array Value := nine x ++ nine z
set_option maxRecDepth 100000 in
@[go_sem] theorem rmp_size (x z : Nat) : (rmp x z).size = 18 := by unfold rmp; simp only [Array.size_append, nine_size]
set_option maxRecDepth 100000 in
@[go_sem] theorem rmp_one (x z : Nat) : ones (rmp x z) = true := by unfold rmp; rw [ones_append, nine_one, nine_one]; rfl
set_option maxRecDepth 100000 in
@[go_sem] theorem rmp_x (x z : Nat) : (rmp x z).extract 0 9 = nine x := by
  have e : rmp x z = #[] ++ nine x ++ nine z := by unfold rmp; rw [Array.empty_append]
  rw [e]; exact ext_at _ _ _ 0 9 rfl (nine_size x)
set_option maxRecDepth 100000 in
@[go_sem] theorem rmp_z (x z : Nat) : (rmp x z).extract 9 18 = nine z := by
  have e : rmp x z = nine x ++ nine z ++ #[] := by unfold rmp; rw [Array.append_empty]
  rw [e]; exact ext_at _ _ _ 9 9 (nine_size x) (nine_size z)
set_option maxRecDepth 100000 in
theorem rmp_zero : (#[.int .u64 0, .int .u64 0, .int .u64 0, .int .u64 0, .int .u64 0, .int .u64 0, .int .u64 0, .int .u64 0, .int .u64 0, .int .u64 0, .int .u64 0, .int .u64 0, .int .u64 0, .int .u64 0, .int .u64 0, .int .u64 0, .int .u64 0, .int .u64 0] : Array Value) = rmp 0 0 := rfl
set_option maxRecDepth 100000 in
theorem info_RMp : (Try.prog.info? 111).map (·.size) = some 18 := by kernel_rfl
                                                                                                                                                                                                                                                                                               theorem exl_RMp {r : Operand → Value} {dst : Option Nat} {x : Operand} {t : TypeId} {pos : String} {af : Array Edge} {g : Option (Nat × Bool)} : execOp r ⟨dst, .load 111 x, t, pos, af, g⟩ = (do let v ← loadRow 111 (r x); pure (Next.value v)) := rfl
                                                                                                                                                                                                                                                                                               theorem exs_RMp {r : Operand → Value} {dst : Option Nat} {x y : Operand} {t : TypeId} {pos : String} {af : Array Edge} {g : Option (Nat × Bool)} : execOp r ⟨dst, .store 111 x y, t, pos, af, g⟩ = (do storeRow 111 (r x) (r y); pure Next.skip) := rfl
                                                                                                                                                                                                                                                                                               theorem ldr_RMp (b : Nat) (w : World) : (loadRow 111 (.pointer (some ⟨b, 0, none⟩))).run Try.prog w = match hget w b with | some (.cells c _ _) => if c.size = 18 then .ok (.agg c) w else stuckL Try.prog 111 b w | _ => stuckL Try.prog 111 b w := loadRow_run Try.underlying111 rfl info_RMp b w
                                                                                                                                                                                                                                                                                               theorem str_RMp (b : Nat) (c' : Array Value) (w : World) : (storeRow 111 (.pointer (some ⟨b, 0, none⟩)) (.agg c')).run Try.prog w = match hget w b with | some (.cells c T (0, 0)) => if c.size = 18 then (if c'.size = 18 then (if ones c' = true then .ok () (blk w b (.cells c' T (0, 0))) else stuckS Try.prog 111 b (.agg c') w) else stuckS Try.prog 111 b (.agg c') w) else stuckS Try.prog 111 b (.agg c') w | _ => stuckS Try.prog 111 b (.agg c') w := storeRow_run info_RMp b c' w
set_option maxRecDepth 100000 in
theorem exb_RMp {r : Operand → Value} {dst : Option Nat} {ps : Array (Nat × Operand)} {t : TypeId} {pos : String} {af : Array Edge} {g : Option (Nat × Bool)} : execOp r ⟨dst, .build 111 ps, t, pos, af, g⟩ = (do let v ← buildRowR 111 (ps.map fun (i, x) => (i, r x)); pure (Next.value v)) := rfl
set_option maxRecDepth 100000 in
theorem bld_rmp (x z : Nat) (w : World) : (buildRowR 111 #[(0, .agg (nine x)), (1, .agg (nine z))]).run Try.prog w = .ok (.agg (rmp x z)) w :=
  run_build w 111 _ _ (by kernel_rfl)
set_option maxRecDepth 100000 in
theorem bld_rmp0 (x : Nat) (w : World) : (buildRowR 111 #[(0, .agg (nine x))]).run Try.prog w = .ok (.agg (rmp x 0)) w :=
  run_build w 111 _ _ (by kernel_rfl)
attribute [local go_sem ↓] exl_Num exs_Num exl_RMp exs_RMp exb_RMp
                                      attribute [local go_sem] ldm_Num str_Num ldr_RMp str_RMp to_nine0 rmp_zero bld_rmp bld_rmp0

set_option maxRecDepth 100000 in
set_option maxHeartbeats 4000000 in
theorem rtwice_core (x z a b c d e f : Nat) (W : World) (hx : x < pP) (hz : z < pP) (ha : ra x z = a) (hb : rs x z = b) (hc : rm a a = c) (hd : rm b b = d) (he : rs c d = e) (hf : rm 121665 e = f) :
    Calls Try.prog 79 #[.agg (rmp x z)] W fun r w' => r = .returned (.agg (rmp (rm c d) (rm e (ra c f)))) ∧ Below W.heap.size W w' := by
  have la : a < pP := ha ▸ ra_lt _ _
  have lb : b < pP := hb ▸ rs_lt _ _
  have lc : c < pP := hc ▸ rm_lt _ _
  have ld : d < pP := hd ▸ rm_lt _ _
  have le : e < pP := he ▸ rs_lt _ _
  have lf : f < pP := hf ▸ rm_lt _ _
  have A1 := hid (fun w => ha ▸ radd_v x z w hx hz)
  have S1 := hid (fun w => hb ▸ rsub_v x z w hx hz)
  have M1 := hid (fun w => hc ▸ rmul_v a a w la la)
  have M2 := hid (fun w => hd ▸ rmul_v b b w lb lb)
  have S2 := hid (fun w => he ▸ rsub_v c d w lc ld)
  have M3 := hid (fun w => rmul_v c d w lc ld)
  have K1 := hid (fun w => ref_Small 121665 w (by decide))
  have M4 := hid (fun w => hf ▸ rmul_v 121665 e w (by decide) le)
  have A2 := hid (fun w => radd_v c f w lc lf)
  have M5 := hid (fun w => rmul_v e (ra c f) w le (ra_lt _ _))
  clear ha hb hc hd he hf la lb lc ld le lf hx hz
  go_enter Try.func79, Try.ntmps79
  go_upto_region 1 with (fail)
  obtain ⟨w1, hw1⟩ : ∃ w1, (W.alloc (.cells (rmp x z) 111)).alloc (.cells (rmp 0 0) 111) = w1 := ⟨_, rfl⟩
  have kP := kept (show hget w1 (W.heap.size) = some (.cells (rmp x z) 111 (0, 0)) by rw [← hw1]; clear hw1; go_simp)
  have kR := kept (show hget w1 (W.heap.size + 1) = some (.cells (rmp 0 0) 111 (0, 0)) by rw [← hw1]; clear hw1; go_simp)
  have b1 : Hid (Below W.heap.size W w1) := by rw [← hw1]; repeat (first | exact Below.refl _ _ | exact below_new _ | assumption | refine Below.drew ?_ | refine Below.drewN ?_ _ | refine below_alloc ?_ _ | refine below_blk' ?_ (by omega) _)
  rw [hw1]
  clear hw1
  try clear gP lP nP mP
  try clear jP
  have jP := kP.later
  obtain ⟨gP, lP, nP, mP⟩ := kP
  try clear gR lR nR mR
  try clear jR
  have jR := kR.later
  obtain ⟨gR, lR, nR, mR⟩ := kR
  go_wp2_with fail
  try clear jP jR
  refine (A1.out _).mono ?_
  rintro e w2 ⟨rfl, hb2⟩
  have kP := Kept.on (kept (b := W.heap.size) (o := .cells (rmp x z) 111 (0, 0)) (by go_simp)) hb2
  have kR := Kept.on (kept (b := W.heap.size + 1) (o := .cells (rmp 0 0) 111 (0, 0)) (by go_simp)) hb2
  have b2 : Hid (Below W.heap.size W w2) := below_to (by repeat (first | exact Below.refl _ _ | exact below_new _ | exact b1.out | assumption | refine Below.drew ?_ | refine Below.drewN ?_ _ | refine below_alloc ?_ _ | refine below_blk' ?_ (by omega) _)) hb2
  clear hb2
  try clear gP lP nP mP
  obtain ⟨gP, lP, nP, mP⟩ := kP
  try clear gR lR nR mR
  obtain ⟨gR, lR, nR, mR⟩ := kR
  clear b1
  go_upto_region 2 with (fail)
  obtain ⟨A, hA⟩ : ∃ b, w2.heap.size = b := ⟨_, rfl⟩
  have wA : W.heap.size ≤ A := by rw [← hA]; exact b2.out.size
  have ePA : (W.heap.size = A) = False := by rw [← hA]; exact nP
  have eAP : (A = W.heap.size) = False := by rw [← hA]; exact mP
  have eRA : (W.heap.size + 1 = A) = False := by rw [← hA]; exact nR
  have eAR : (A = W.heap.size + 1) = False := by rw [← hA]; exact mR
  obtain ⟨w3, hw3⟩ : ∃ w3, w2.alloc (.cells (nine a) 35) = w3 := ⟨_, rfl⟩
  have kP := kept (show hget w3 (W.heap.size) = some (.cells (rmp x z) 111 (0, 0)) by rw [← hw3]; clear hw3; go_simp)
  have kR := kept (show hget w3 (W.heap.size + 1) = some (.cells (rmp 0 0) 111 (0, 0)) by rw [← hw3]; clear hw3; go_simp)
  have kA := kept (show hget w3 (w2.heap.size) = some (.cells (nine a) 35) by rw [← hw3]; clear hw3; go_simp)
  have b3 : Hid (Below W.heap.size W w3) := by rw [← hw3]; repeat (first | exact Below.refl _ _ | exact below_new _ | exact b2.out | assumption | refine Below.drew ?_ | refine Below.drewN ?_ _ | refine below_alloc ?_ _ | refine below_blk' ?_ (by omega) _)
  rw [hw3]
  clear hw3
  try clear gP lP nP mP
  try clear jP
  have jP := kP.later
  obtain ⟨gP, lP, nP, mP⟩ := kP
  try clear gR lR nR mR
  try clear jR
  have jR := kR.later
  obtain ⟨gR, lR, nR, mR⟩ := kR
  try clear gA lA nA mA
  try clear jA
  have jA := kA.later
  obtain ⟨gA, lA, nA, mA⟩ := kA
  clear b2
  rw [hA] at *
  clear hA
  go_wp2_with fail
  try clear jP jR jA
  refine (S1.out _).mono ?_
  rintro e w4 ⟨rfl, hb4⟩
  have kP := Kept.on (kept (b := W.heap.size) (o := .cells (rmp x z) 111 (0, 0)) (by go_simp)) hb4
  have kR := Kept.on (kept (b := W.heap.size + 1) (o := .cells (rmp 0 0) 111 (0, 0)) (by go_simp)) hb4
  have kA := Kept.on (kept (b := A) (o := .cells (nine a) 35 (0, 0)) (by go_simp)) hb4
  have b4 : Hid (Below W.heap.size W w4) := below_to (by repeat (first | exact Below.refl _ _ | exact below_new _ | exact b3.out | assumption | refine Below.drew ?_ | refine Below.drewN ?_ _ | refine below_alloc ?_ _ | refine below_blk' ?_ (by omega) _)) hb4
  clear hb4
  try clear gP lP nP mP
  obtain ⟨gP, lP, nP, mP⟩ := kP
  try clear gR lR nR mR
  obtain ⟨gR, lR, nR, mR⟩ := kR
  try clear gA lA nA mA
  obtain ⟨gA, lA, nA, mA⟩ := kA
  clear b3
  go_upto_region 3 with (fail)
  obtain ⟨B, hB⟩ : ∃ b, w4.heap.size = b := ⟨_, rfl⟩
  have wB : W.heap.size ≤ B := by rw [← hB]; exact b4.out.size
  have ePB : (W.heap.size = B) = False := by rw [← hB]; exact nP
  have eBP : (B = W.heap.size) = False := by rw [← hB]; exact mP
  have eRB : (W.heap.size + 1 = B) = False := by rw [← hB]; exact nR
  have eBR : (B = W.heap.size + 1) = False := by rw [← hB]; exact mR
  have eAB : (A = B) = False := by rw [← hB]; exact nA
  have eBA : (B = A) = False := by rw [← hB]; exact mA
  obtain ⟨w5, hw5⟩ : ∃ w5, w4.alloc (.cells (nine b) 35) = w5 := ⟨_, rfl⟩
  have kP := kept (show hget w5 (W.heap.size) = some (.cells (rmp x z) 111 (0, 0)) by rw [← hw5]; clear hw5; go_simp)
  have kR := kept (show hget w5 (W.heap.size + 1) = some (.cells (rmp 0 0) 111 (0, 0)) by rw [← hw5]; clear hw5; go_simp)
  have kA := kept (show hget w5 (A) = some (.cells (nine a) 35 (0, 0)) by rw [← hw5]; clear hw5; go_simp)
  have kB := kept (show hget w5 (w4.heap.size) = some (.cells (nine b) 35) by rw [← hw5]; clear hw5; go_simp)
  have b5 : Hid (Below W.heap.size W w5) := by rw [← hw5]; repeat (first | exact Below.refl _ _ | exact below_new _ | exact b4.out | assumption | refine Below.drew ?_ | refine Below.drewN ?_ _ | refine below_alloc ?_ _ | refine below_blk' ?_ (by omega) _)
  rw [hw5]
  clear hw5
  try clear gP lP nP mP
  try clear jP
  have jP := kP.later
  obtain ⟨gP, lP, nP, mP⟩ := kP
  try clear gR lR nR mR
  try clear jR
  have jR := kR.later
  obtain ⟨gR, lR, nR, mR⟩ := kR
  try clear gA lA nA mA
  try clear jA
  have jA := kA.later
  obtain ⟨gA, lA, nA, mA⟩ := kA
  try clear gB lB nB mB
  try clear jB
  have jB := kB.later
  obtain ⟨gB, lB, nB, mB⟩ := kB
  clear b4
  rw [hB] at *
  clear hB
  go_wp2_with fail
  try clear jP jR jA jB
  refine (M1.out _).mono ?_
  rintro e w6 ⟨rfl, hb6⟩
  have kP := Kept.on (kept (b := W.heap.size) (o := .cells (rmp x z) 111 (0, 0)) (by go_simp)) hb6
  have kR := Kept.on (kept (b := W.heap.size + 1) (o := .cells (rmp 0 0) 111 (0, 0)) (by go_simp)) hb6
  have kA := Kept.on (kept (b := A) (o := .cells (nine a) 35 (0, 0)) (by go_simp)) hb6
  have kB := Kept.on (kept (b := B) (o := .cells (nine b) 35 (0, 0)) (by go_simp)) hb6
  have b6 : Hid (Below W.heap.size W w6) := below_to (by repeat (first | exact Below.refl _ _ | exact below_new _ | exact b5.out | assumption | refine Below.drew ?_ | refine Below.drewN ?_ _ | refine below_alloc ?_ _ | refine below_blk' ?_ (by omega) _)) hb6
  clear hb6
  try clear gP lP nP mP
  obtain ⟨gP, lP, nP, mP⟩ := kP
  try clear gR lR nR mR
  obtain ⟨gR, lR, nR, mR⟩ := kR
  try clear gA lA nA mA
  obtain ⟨gA, lA, nA, mA⟩ := kA
  try clear gB lB nB mB
  obtain ⟨gB, lB, nB, mB⟩ := kB
  clear b5
  go_upto_region 4 with (fail)
  obtain ⟨C, hC⟩ : ∃ b, w6.heap.size = b := ⟨_, rfl⟩
  have wC : W.heap.size ≤ C := by rw [← hC]; exact b6.out.size
  have ePC : (W.heap.size = C) = False := by rw [← hC]; exact nP
  have eCP : (C = W.heap.size) = False := by rw [← hC]; exact mP
  have eRC : (W.heap.size + 1 = C) = False := by rw [← hC]; exact nR
  have eCR : (C = W.heap.size + 1) = False := by rw [← hC]; exact mR
  have eAC : (A = C) = False := by rw [← hC]; exact nA
  have eCA : (C = A) = False := by rw [← hC]; exact mA
  have eBC : (B = C) = False := by rw [← hC]; exact nB
  have eCB : (C = B) = False := by rw [← hC]; exact mB
  obtain ⟨w7, hw7⟩ : ∃ w7, w6.alloc (.cells (nine c) 35) = w7 := ⟨_, rfl⟩
  have kP := kept (show hget w7 (W.heap.size) = some (.cells (rmp x z) 111 (0, 0)) by rw [← hw7]; clear hw7; go_simp)
  have kR := kept (show hget w7 (W.heap.size + 1) = some (.cells (rmp 0 0) 111 (0, 0)) by rw [← hw7]; clear hw7; go_simp)
  have kA := kept (show hget w7 (A) = some (.cells (nine a) 35 (0, 0)) by rw [← hw7]; clear hw7; go_simp)
  have kB := kept (show hget w7 (B) = some (.cells (nine b) 35 (0, 0)) by rw [← hw7]; clear hw7; go_simp)
  have kC := kept (show hget w7 (w6.heap.size) = some (.cells (nine c) 35) by rw [← hw7]; clear hw7; go_simp)
  have b7 : Hid (Below W.heap.size W w7) := by rw [← hw7]; repeat (first | exact Below.refl _ _ | exact below_new _ | exact b6.out | assumption | refine Below.drew ?_ | refine Below.drewN ?_ _ | refine below_alloc ?_ _ | refine below_blk' ?_ (by omega) _)
  rw [hw7]
  clear hw7
  try clear gP lP nP mP
  try clear jP
  have jP := kP.later
  obtain ⟨gP, lP, nP, mP⟩ := kP
  try clear gR lR nR mR
  try clear jR
  have jR := kR.later
  obtain ⟨gR, lR, nR, mR⟩ := kR
  try clear gA lA nA mA
  try clear jA
  have jA := kA.later
  obtain ⟨gA, lA, nA, mA⟩ := kA
  try clear gB lB nB mB
  try clear jB
  have jB := kB.later
  obtain ⟨gB, lB, nB, mB⟩ := kB
  try clear gC lC nC mC
  try clear jC
  have jC := kC.later
  obtain ⟨gC, lC, nC, mC⟩ := kC
  clear b6
  rw [hC] at *
  clear hC
  go_wp2_with fail
  try clear jP jR jA jB jC
  refine (M2.out _).mono ?_
  rintro e w8 ⟨rfl, hb8⟩
  have kP := Kept.on (kept (b := W.heap.size) (o := .cells (rmp x z) 111 (0, 0)) (by go_simp)) hb8
  have kR := Kept.on (kept (b := W.heap.size + 1) (o := .cells (rmp 0 0) 111 (0, 0)) (by go_simp)) hb8
  have kA := Kept.on (kept (b := A) (o := .cells (nine a) 35 (0, 0)) (by go_simp)) hb8
  have kB := Kept.on (kept (b := B) (o := .cells (nine b) 35 (0, 0)) (by go_simp)) hb8
  have kC := Kept.on (kept (b := C) (o := .cells (nine c) 35 (0, 0)) (by go_simp)) hb8
  have b8 : Hid (Below W.heap.size W w8) := below_to (by repeat (first | exact Below.refl _ _ | exact below_new _ | exact b7.out | assumption | refine Below.drew ?_ | refine Below.drewN ?_ _ | refine below_alloc ?_ _ | refine below_blk' ?_ (by omega) _)) hb8
  clear hb8
  try clear gP lP nP mP
  obtain ⟨gP, lP, nP, mP⟩ := kP
  try clear gR lR nR mR
  obtain ⟨gR, lR, nR, mR⟩ := kR
  try clear gA lA nA mA
  obtain ⟨gA, lA, nA, mA⟩ := kA
  try clear gB lB nB mB
  obtain ⟨gB, lB, nB, mB⟩ := kB
  try clear gC lC nC mC
  obtain ⟨gC, lC, nC, mC⟩ := kC
  clear b7
  go_upto_region 5 with (fail)
  obtain ⟨D, hD⟩ : ∃ b, w8.heap.size = b := ⟨_, rfl⟩
  have wD : W.heap.size ≤ D := by rw [← hD]; exact b8.out.size
  have ePD : (W.heap.size = D) = False := by rw [← hD]; exact nP
  have eDP : (D = W.heap.size) = False := by rw [← hD]; exact mP
  have eRD : (W.heap.size + 1 = D) = False := by rw [← hD]; exact nR
  have eDR : (D = W.heap.size + 1) = False := by rw [← hD]; exact mR
  have eAD : (A = D) = False := by rw [← hD]; exact nA
  have eDA : (D = A) = False := by rw [← hD]; exact mA
  have eBD : (B = D) = False := by rw [← hD]; exact nB
  have eDB : (D = B) = False := by rw [← hD]; exact mB
  have eCD : (C = D) = False := by rw [← hD]; exact nC
  have eDC : (D = C) = False := by rw [← hD]; exact mC
  obtain ⟨w9, hw9⟩ : ∃ w9, w8.alloc (.cells (nine d) 35) = w9 := ⟨_, rfl⟩
  have kP := kept (show hget w9 (W.heap.size) = some (.cells (rmp x z) 111 (0, 0)) by rw [← hw9]; clear hw9; go_simp)
  have kR := kept (show hget w9 (W.heap.size + 1) = some (.cells (rmp 0 0) 111 (0, 0)) by rw [← hw9]; clear hw9; go_simp)
  have kA := kept (show hget w9 (A) = some (.cells (nine a) 35 (0, 0)) by rw [← hw9]; clear hw9; go_simp)
  have kB := kept (show hget w9 (B) = some (.cells (nine b) 35 (0, 0)) by rw [← hw9]; clear hw9; go_simp)
  have kC := kept (show hget w9 (C) = some (.cells (nine c) 35 (0, 0)) by rw [← hw9]; clear hw9; go_simp)
  have kD := kept (show hget w9 (w8.heap.size) = some (.cells (nine d) 35) by rw [← hw9]; clear hw9; go_simp)
  have b9 : Hid (Below W.heap.size W w9) := by rw [← hw9]; repeat (first | exact Below.refl _ _ | exact below_new _ | exact b8.out | assumption | refine Below.drew ?_ | refine Below.drewN ?_ _ | refine below_alloc ?_ _ | refine below_blk' ?_ (by omega) _)
  rw [hw9]
  clear hw9
  try clear gP lP nP mP
  try clear jP
  have jP := kP.later
  obtain ⟨gP, lP, nP, mP⟩ := kP
  try clear gR lR nR mR
  try clear jR
  have jR := kR.later
  obtain ⟨gR, lR, nR, mR⟩ := kR
  try clear gA lA nA mA
  try clear jA
  have jA := kA.later
  obtain ⟨gA, lA, nA, mA⟩ := kA
  try clear gB lB nB mB
  try clear jB
  have jB := kB.later
  obtain ⟨gB, lB, nB, mB⟩ := kB
  try clear gC lC nC mC
  try clear jC
  have jC := kC.later
  obtain ⟨gC, lC, nC, mC⟩ := kC
  try clear gD lD nD mD
  try clear jD
  have jD := kD.later
  obtain ⟨gD, lD, nD, mD⟩ := kD
  clear b8
  rw [hD] at *
  clear hD
  go_wp2_with fail
  try clear jP jR jA jB jC jD
  refine (S2.out _).mono ?_
  rintro e w10 ⟨rfl, hb10⟩
  have kP := Kept.on (kept (b := W.heap.size) (o := .cells (rmp x z) 111 (0, 0)) (by go_simp)) hb10
  have kR := Kept.on (kept (b := W.heap.size + 1) (o := .cells (rmp 0 0) 111 (0, 0)) (by go_simp)) hb10
  have kA := Kept.on (kept (b := A) (o := .cells (nine a) 35 (0, 0)) (by go_simp)) hb10
  have kB := Kept.on (kept (b := B) (o := .cells (nine b) 35 (0, 0)) (by go_simp)) hb10
  have kC := Kept.on (kept (b := C) (o := .cells (nine c) 35 (0, 0)) (by go_simp)) hb10
  have kD := Kept.on (kept (b := D) (o := .cells (nine d) 35 (0, 0)) (by go_simp)) hb10
  have b10 : Hid (Below W.heap.size W w10) := below_to (by repeat (first | exact Below.refl _ _ | exact below_new _ | exact b9.out | assumption | refine Below.drew ?_ | refine Below.drewN ?_ _ | refine below_alloc ?_ _ | refine below_blk' ?_ (by omega) _)) hb10
  clear hb10
  try clear gP lP nP mP
  obtain ⟨gP, lP, nP, mP⟩ := kP
  try clear gR lR nR mR
  obtain ⟨gR, lR, nR, mR⟩ := kR
  try clear gA lA nA mA
  obtain ⟨gA, lA, nA, mA⟩ := kA
  try clear gB lB nB mB
  obtain ⟨gB, lB, nB, mB⟩ := kB
  try clear gC lC nC mC
  obtain ⟨gC, lC, nC, mC⟩ := kC
  try clear gD lD nD mD
  obtain ⟨gD, lD, nD, mD⟩ := kD
  clear b9
  go_upto_region 6 with (fail)
  obtain ⟨E, hE⟩ : ∃ b, w10.heap.size = b := ⟨_, rfl⟩
  have wE : W.heap.size ≤ E := by rw [← hE]; exact b10.out.size
  have ePE : (W.heap.size = E) = False := by rw [← hE]; exact nP
  have eEP : (E = W.heap.size) = False := by rw [← hE]; exact mP
  have eRE : (W.heap.size + 1 = E) = False := by rw [← hE]; exact nR
  have eER : (E = W.heap.size + 1) = False := by rw [← hE]; exact mR
  have eAE : (A = E) = False := by rw [← hE]; exact nA
  have eEA : (E = A) = False := by rw [← hE]; exact mA
  have eBE : (B = E) = False := by rw [← hE]; exact nB
  have eEB : (E = B) = False := by rw [← hE]; exact mB
  have eCE : (C = E) = False := by rw [← hE]; exact nC
  have eEC : (E = C) = False := by rw [← hE]; exact mC
  have eDE : (D = E) = False := by rw [← hE]; exact nD
  have eED : (E = D) = False := by rw [← hE]; exact mD
  obtain ⟨w11, hw11⟩ : ∃ w11, w10.alloc (.cells (nine e) 35) = w11 := ⟨_, rfl⟩
  have kP := kept (show hget w11 (W.heap.size) = some (.cells (rmp x z) 111 (0, 0)) by rw [← hw11]; clear hw11; go_simp)
  have kR := kept (show hget w11 (W.heap.size + 1) = some (.cells (rmp 0 0) 111 (0, 0)) by rw [← hw11]; clear hw11; go_simp)
  have kA := kept (show hget w11 (A) = some (.cells (nine a) 35 (0, 0)) by rw [← hw11]; clear hw11; go_simp)
  have kB := kept (show hget w11 (B) = some (.cells (nine b) 35 (0, 0)) by rw [← hw11]; clear hw11; go_simp)
  have kC := kept (show hget w11 (C) = some (.cells (nine c) 35 (0, 0)) by rw [← hw11]; clear hw11; go_simp)
  have kD := kept (show hget w11 (D) = some (.cells (nine d) 35 (0, 0)) by rw [← hw11]; clear hw11; go_simp)
  have kE := kept (show hget w11 (w10.heap.size) = some (.cells (nine e) 35) by rw [← hw11]; clear hw11; go_simp)
  have b11 : Hid (Below W.heap.size W w11) := by rw [← hw11]; repeat (first | exact Below.refl _ _ | exact below_new _ | exact b10.out | assumption | refine Below.drew ?_ | refine Below.drewN ?_ _ | refine below_alloc ?_ _ | refine below_blk' ?_ (by omega) _)
  rw [hw11]
  clear hw11
  try clear gP lP nP mP
  try clear jP
  have jP := kP.later
  obtain ⟨gP, lP, nP, mP⟩ := kP
  try clear gR lR nR mR
  try clear jR
  have jR := kR.later
  obtain ⟨gR, lR, nR, mR⟩ := kR
  try clear gA lA nA mA
  try clear jA
  have jA := kA.later
  obtain ⟨gA, lA, nA, mA⟩ := kA
  try clear gB lB nB mB
  try clear jB
  have jB := kB.later
  obtain ⟨gB, lB, nB, mB⟩ := kB
  try clear gC lC nC mC
  try clear jC
  have jC := kC.later
  obtain ⟨gC, lC, nC, mC⟩ := kC
  try clear gD lD nD mD
  try clear jD
  have jD := kD.later
  obtain ⟨gD, lD, nD, mD⟩ := kD
  try clear gE lE nE mE
  try clear jE
  have jE := kE.later
  obtain ⟨gE, lE, nE, mE⟩ := kE
  clear b10
  rw [hE] at *
  clear hE
  clear A1 S1 M1 M2 S2
  have jP := Kept.later (kept gP)
  have jR := Kept.later (kept gR)
  have jA := Kept.later (kept gA)
  have jB := Kept.later (kept gB)
  have jC := Kept.later (kept gC)
  have jD := Kept.later (kept gD)
  have jE := Kept.later (kept gE)
  refine wp_region_later_tail 11 (by kernel_rfl) (by kernel_rfl) ?_
  simp only [List.take_succ_cons, List.take_zero, List.drop_succ_cons, List.drop_zero]
  repeat ((go_big_quiet_step ((first | (go_at_call 55; first | with_reducible exact calls_later (M3.out _) | with_reducible exact calls_later (M4.out _) | with_reducible exact calls_later (M5.out _)) | (go_at_call 58; with_reducible exact calls_later (A2.out _)) | (go_at_call 56; with_reducible exact calls_later (K1.out _))))))
  refine wpQuiet_nil ?_
  intro wL hwL
  obtain ⟨⟨w8, hL⟩, e8⟩ := hwL
  change wL = w8 at e8
  subst e8
  obtain ⟨gR, lR, nR, mR⟩ := kept (jR ⟨_, hL⟩)
  go_wp2_with fail
  refine bodyPost_ret (v := .agg (rmp (rm c d) (rm e (ra c f)))) (results_cell_row Try.results79 _ _ (W.heap.size + 1) 111 (rmp (rm c d) (rm e (ra c f))) (0, 0) _ (by rfl) (by rw [← hget_eq]; go_simp) Try.underlying111 rfl (by rw [info_RMp]; go_simp)) rfl ?_
  exact ⟨rfl, below_blk' (below_to b11.out hL) (by omega) _⟩

set_option maxRecDepth 100000 in
set_option maxHeartbeats 4000000 in
theorem rsum_core (s : Ld) (u a b c d : Nat) (W : World) (hs : Rd.bd s) (hu : u < pP) (ha : Rd.suA s = a) (hb : Rd.suB s = b) (hc : ra a b = c) (hd : rs a b = d) :
    Calls Try.prog 78 #[.agg (rmp s.lx s.lz), .agg (rmp s.hx s.hz), .agg (nine u)] W fun r w' => r = .returned (.agg (rmp (rm c c) (rm u (rm d d)))) ∧ Below W.heap.size W w' := by
  have la : a < pP := ha ▸ rm_lt _ _
  have lb : b < pP := hb ▸ rm_lt _ _
  have lc : c < pP := hc ▸ ra_lt _ _
  have ld : d < pP := hd ▸ rs_lt _ _
  have S1 := hid (fun w => rsub_v s.lx s.lz w hs.lx hs.lz)
  have A1 := hid (fun w => radd_v s.hx s.hz w hs.hx hs.hz)
  have M1 : Hid (∀ w, Calls Try.prog 55 #[.agg (nine (rs s.lx s.lz)), .agg (nine (ra s.hx s.hz))] w fun e w' => e = .returned (.agg (nine a)) ∧ Below w.heap.size w w') := hid (fun w => ha ▸ rmul_v (rs s.lx s.lz) (ra s.hx s.hz) w (rs_lt _ _) (ra_lt _ _))
  have A2 := hid (fun w => radd_v s.lx s.lz w hs.lx hs.lz)
  have S2 := hid (fun w => rsub_v s.hx s.hz w hs.hx hs.hz)
  have M2 : Hid (∀ w, Calls Try.prog 55 #[.agg (nine (ra s.lx s.lz)), .agg (nine (rs s.hx s.hz))] w fun e w' => e = .returned (.agg (nine b)) ∧ Below w.heap.size w w') := hid (fun w => hb ▸ rmul_v (ra s.lx s.lz) (rs s.hx s.hz) w (ra_lt _ _) (rs_lt _ _))
  have A3 := hid (fun w => hc ▸ radd_v a b w la lb)
  have S3 := hid (fun w => hd ▸ rsub_v a b w la lb)
  have M3 := hid (fun w => rmul_v c c w lc lc)
  have M4 := hid (fun w => rmul_v d d w ld ld)
  have M5 := hid (fun w => rmul_v u (rm d d) w hu (rm_lt _ _))
  clear ha hb hc hd la lb lc ld hs hu
  generalize s.lx = x at *
  generalize s.lz = z at *
  generalize s.hx = x' at *
  generalize s.hz = z' at *
  go_enter Try.func78, Try.ntmps78
  go_upto_region 1 with (fail)
  obtain ⟨w1, hw1⟩ : ∃ w1, (((W.alloc (.cells (rmp x z) 111)).alloc (.cells (rmp x' z') 111)).alloc (.cells (nine u) 35)).alloc (.cells (rmp 0 0) 111) = w1 := ⟨_, rfl⟩
  have kP := kept (show hget w1 (W.heap.size) = some (.cells (rmp x z) 111 (0, 0)) by rw [← hw1]; clear hw1; go_simp)
  have kQ := kept (show hget w1 (W.heap.size + 1) = some (.cells (rmp x' z') 111 (0, 0)) by rw [← hw1]; clear hw1; go_simp)
  have kU := kept (show hget w1 (W.heap.size + 1 + 1) = some (.cells (nine u) 35 (0, 0)) by rw [← hw1]; clear hw1; go_simp)
  have kR := kept (show hget w1 (W.heap.size + 1 + 1 + 1) = some (.cells (rmp 0 0) 111 (0, 0)) by rw [← hw1]; clear hw1; go_simp)
  have b1 : Hid (Below W.heap.size W w1) := by rw [← hw1]; repeat (first | exact Below.refl _ _ | exact below_new _ | assumption | refine Below.drew ?_ | refine Below.drewN ?_ _ | refine below_alloc ?_ _ | refine below_blk' ?_ (by omega) _)
  rw [hw1]
  clear hw1
  try clear gP lP nP mP
  try clear jP
  have jP := kP.later
  obtain ⟨gP, lP, nP, mP⟩ := kP
  try clear gQ lQ nQ mQ
  try clear jQ
  have jQ := kQ.later
  obtain ⟨gQ, lQ, nQ, mQ⟩ := kQ
  try clear gU lU nU mU
  try clear jU
  have jU := kU.later
  obtain ⟨gU, lU, nU, mU⟩ := kU
  try clear gR lR nR mR
  try clear jR
  have jR := kR.later
  obtain ⟨gR, lR, nR, mR⟩ := kR
  have vP : ∀ x_ : LaterV w1, hget x_.w' (W.heap.size) = some (.cells (rmp x z) 111 (0, 0)) := laterx_get gP (by simp)
  have vQ : ∀ x_ : LaterV w1, hget x_.w' (W.heap.size + 1) = some (.cells (rmp x' z') 111 (0, 0)) := laterx_get gQ (by simp)
  have vU : ∀ x_ : LaterV w1, hget x_.w' (W.heap.size + 1 + 1) = some (.cells (nine u) 35 (0, 0)) := laterx_get gU (by simp)
  have vR : ∀ x_ : LaterV w1, hget x_.w' (W.heap.size + 1 + 1 + 1) = some (.cells (rmp 0 0) 111 (0, 0)) := laterx_get gR (by simp)
  try clear jP jQ jU jR
  refine wp_region_var [11] (fun _ => ⟨12, nine 0, nine a, 35⟩) [] (fun _ => ⟨0, #[], #[], 0⟩) (by kernel_rfl) (by kernel_rfl) (by kernel_rfl) (vsep_new (by kernel_rfl)) (fun e he => absurd he (by simp)) (fun hsep => ?_) (fun e he => absurd he (by simp))
  have HSEP := hid hsep
  clear hsep
  repeat (first | (refine wpV_plain0 HSEP.out (by kernel_rfl) (by rfl) (by rfl) (by kernel_rfl) (by kernel_rfl) (fun K hK => ?_); go_simp; refine hK _ ?_; clear hK K; try go_ints) | (refine wpV_plain0 HSEP.out (by kernel_rfl) (by rfl) (by rfl) (by kernel_rfl) (by kernel_rfl) (fun K hK => ?_); go_simp; (with_reducible refine ⟨_, fun x => S1.out _, hK _ ?_⟩); clear hK K; try go_ints) | (refine wpV_plain0 HSEP.out (by kernel_rfl) (by rfl) (by rfl) (by kernel_rfl) (by kernel_rfl) (fun K hK => ?_); go_simp; (with_reducible refine ⟨_, fun x => A1.out _, hK _ ?_⟩); clear hK K; try go_ints) | (refine wpV_plain0 HSEP.out (by kernel_rfl) (by rfl) (by rfl) (by kernel_rfl) (by kernel_rfl) (fun K hK => ?_); go_simp; (with_reducible refine ⟨_, fun x => M1.out _, hK _ ?_⟩); clear hK K; try go_ints) | (refine wpV_make0 HSEP.out (by kernel_rfl) (by rfl) rfl (by rfl) (by kernel_rfl) (by kernel_rfl) (fun K hK => ⟨fun x => (by first | (go_simp; done) | (go_simp; rfl)), hK _ ?_⟩); clear hK K; try go_ints) | (refine wpV_store0 11 (by rfl) (by rfl) HSEP.out (by rfl) rfl (by kernel_rfl) (fun K hK => ⟨fun g bk_ x cs hg hcs hx => (by clear hK HSEP; rcases hcs with hcs | hcs <;> (rw [hcs] at hx; clear hcs; simp only [over, dstOf, List.getElem?_toArray, List.getElem?_cons_succ, List.getElem?_cons_zero, Option.bind_some, hg]; go_simp; done)), hK _ ?_⟩); clear hK K; try go_ints))
  refine wpGho_nil ?_
  intro gL xL h0L hnL haL hlL
  clear h0L hlL HSEP
  obtain ⟨v11, e11, l11, h11⟩ := hnL 11 (by simp)
  try simp at h11
  simp only [over, dstOf, List.getElem?_toArray, List.getElem?_cons_succ, List.getElem?_cons_zero, Option.bind_some, e11]
  have hxb := laterV_below xL
  have fP := laterx_get gP (by simp) xL
  have fQ := laterx_get gQ (by simp) xL
  have fU := laterx_get gU (by simp) xL
  have fR := laterx_get gR (by simp) xL
  clear hnL haL e11 vP vQ vU vR
  generalize xL.w' = w2 at *
  have b2 := hid (below_to b1.out hxb)
  have s1 := b1.out.size
  clear hxb b1 xL gL
  obtain ⟨A, h_A⟩ : ∃ n_, n_ = v11 := ⟨_, rfl⟩
  subst h_A
  have wA : W.heap.size ≤ A := by omega
  have ePA : (W.heap.size = A) = False := by simp; omega
  have eAP : (A = W.heap.size) = False := by simp; omega
  have eQA : (W.heap.size + 1 = A) = False := by simp; omega
  have eAQ : (A = W.heap.size + 1) = False := by simp; omega
  have eUA : (W.heap.size + 1 + 1 = A) = False := by simp; omega
  have eAU : (A = W.heap.size + 1 + 1) = False := by simp; omega
  have eRA : (W.heap.size + 1 + 1 + 1 = A) = False := by simp; omega
  have eAR : (A = W.heap.size + 1 + 1 + 1) = False := by simp; omega
  clear l11
  clear gP lP nP mP
  clear gQ lQ nQ mQ
  clear gU lU nU mU
  clear gR lR nR mR
  obtain ⟨gP, lP, nP, mP⟩ := kept fP
  clear fP
  obtain ⟨gQ, lQ, nQ, mQ⟩ := kept fQ
  clear fQ
  obtain ⟨gU, lU, nU, mU⟩ := kept fU
  clear fU
  obtain ⟨gR, lR, nR, mR⟩ := kept fR
  clear fR
  obtain ⟨gA, lA, nA, mA⟩ := kept h11
  clear h11
  try simp only [Act.put, List.setIfInBounds_toArray, List.set_cons_zero, List.set_cons_succ]
  go_upto_region 2 with (fail)
  clear S1 A1 M1
  have vP : ∀ x_ : LaterV w2, hget x_.w' (W.heap.size) = some (.cells (rmp x z) 111 (0, 0)) := laterx_get gP (by simp)
  have vQ : ∀ x_ : LaterV w2, hget x_.w' (W.heap.size + 1) = some (.cells (rmp x' z') 111 (0, 0)) := laterx_get gQ (by simp)
  have vU : ∀ x_ : LaterV w2, hget x_.w' (W.heap.size + 1 + 1) = some (.cells (nine u) 35 (0, 0)) := laterx_get gU (by simp)
  have vR : ∀ x_ : LaterV w2, hget x_.w' (W.heap.size + 1 + 1 + 1) = some (.cells (rmp 0 0) 111 (0, 0)) := laterx_get gR (by simp)
  have vA : ∀ x_ : LaterV w2, hget x_.w' (A) = some (.cells (nine a) 35 (0, 0)) := laterx_get gA (by simp)
  try clear jP jQ jU jR jA
  refine wp_region_var [11] (fun _ => ⟨12, nine 0, nine b, 35⟩) [] (fun _ => ⟨0, #[], #[], 0⟩) (by kernel_rfl) (by kernel_rfl) (by kernel_rfl) (vsep_new (by kernel_rfl)) (fun e he => absurd he (by simp)) (fun hsep => ?_) (fun e he => absurd he (by simp))
  have HSEP := hid hsep
  clear hsep
  repeat (first | (refine wpV_plain0 HSEP.out (by kernel_rfl) (by rfl) (by rfl) (by kernel_rfl) (by kernel_rfl) (fun K hK => ?_); go_simp; refine hK _ ?_; clear hK K; try go_ints) | (refine wpV_plain0 HSEP.out (by kernel_rfl) (by rfl) (by rfl) (by kernel_rfl) (by kernel_rfl) (fun K hK => ?_); go_simp; (with_reducible refine ⟨_, fun x => S2.out _, hK _ ?_⟩); clear hK K; try go_ints) | (refine wpV_plain0 HSEP.out (by kernel_rfl) (by rfl) (by rfl) (by kernel_rfl) (by kernel_rfl) (fun K hK => ?_); go_simp; (with_reducible refine ⟨_, fun x => A2.out _, hK _ ?_⟩); clear hK K; try go_ints) | (refine wpV_plain0 HSEP.out (by kernel_rfl) (by rfl) (by rfl) (by kernel_rfl) (by kernel_rfl) (fun K hK => ?_); go_simp; (with_reducible refine ⟨_, fun x => M2.out _, hK _ ?_⟩); clear hK K; try go_ints) | (refine wpV_make0 HSEP.out (by kernel_rfl) (by rfl) rfl (by rfl) (by kernel_rfl) (by kernel_rfl) (fun K hK => ⟨fun x => (by first | (go_simp; done) | (go_simp; rfl)), hK _ ?_⟩); clear hK K; try go_ints) | (refine wpV_store0 11 (by rfl) (by rfl) HSEP.out (by rfl) rfl (by kernel_rfl) (fun K hK => ⟨fun g bk_ x cs hg hcs hx => (by clear hK HSEP; rcases hcs with hcs | hcs <;> (rw [hcs] at hx; clear hcs; simp only [over, dstOf, List.getElem?_toArray, List.getElem?_cons_succ, List.getElem?_cons_zero, Option.bind_some, hg]; go_simp; done)), hK _ ?_⟩); clear hK K; try go_ints))
  refine wpGho_nil ?_
  intro gL xL h0L hnL haL hlL
  clear h0L hlL HSEP
  obtain ⟨v11, e11, l11, h11⟩ := hnL 11 (by simp)
  try simp at h11
  simp only [over, dstOf, List.getElem?_toArray, List.getElem?_cons_succ, List.getElem?_cons_zero, Option.bind_some, e11]
  have hxb := laterV_below xL
  have fP := laterx_get gP (by simp) xL
  have fQ := laterx_get gQ (by simp) xL
  have fU := laterx_get gU (by simp) xL
  have fR := laterx_get gR (by simp) xL
  have fA := laterx_get gA (by simp) xL
  clear hnL haL e11 vP vQ vU vR vA
  generalize xL.w' = w3 at *
  have b3 := hid (below_to b2.out hxb)
  have s2 := b2.out.size
  clear hxb b2 xL gL
  obtain ⟨B, h_B⟩ : ∃ n_, n_ = v11 := ⟨_, rfl⟩
  subst h_B
  have wB : W.heap.size ≤ B := by omega
  have ePB : (W.heap.size = B) = False := by simp; omega
  have eBP : (B = W.heap.size) = False := by simp; omega
  have eQB : (W.heap.size + 1 = B) = False := by simp; omega
  have eBQ : (B = W.heap.size + 1) = False := by simp; omega
  have eUB : (W.heap.size + 1 + 1 = B) = False := by simp; omega
  have eBU : (B = W.heap.size + 1 + 1) = False := by simp; omega
  have eRB : (W.heap.size + 1 + 1 + 1 = B) = False := by simp; omega
  have eBR : (B = W.heap.size + 1 + 1 + 1) = False := by simp; omega
  have eAB : (A = B) = False := by simp; omega
  have eBA : (B = A) = False := by simp; omega
  clear l11
  clear gP lP nP mP
  clear gQ lQ nQ mQ
  clear gU lU nU mU
  clear gR lR nR mR
  clear gA lA nA mA
  obtain ⟨gP, lP, nP, mP⟩ := kept fP
  clear fP
  obtain ⟨gQ, lQ, nQ, mQ⟩ := kept fQ
  clear fQ
  obtain ⟨gU, lU, nU, mU⟩ := kept fU
  clear fU
  obtain ⟨gR, lR, nR, mR⟩ := kept fR
  clear fR
  obtain ⟨gA, lA, nA, mA⟩ := kept fA
  clear fA
  obtain ⟨gB, lB, nB, mB⟩ := kept h11
  clear h11
  try simp only [Act.put, List.setIfInBounds_toArray, List.set_cons_zero, List.set_cons_succ]
  clear S2 A2 M2
  go_wp2_with fail
  try clear jP jQ jU jR jA jB
  refine (A3.out _).mono ?_
  rintro e w4 ⟨rfl, hb4⟩
  have kP := Kept.on (kept (b := W.heap.size) (o := .cells (rmp x z) 111 (0, 0)) (by go_simp)) hb4
  have kQ := Kept.on (kept (b := W.heap.size + 1) (o := .cells (rmp x' z') 111 (0, 0)) (by go_simp)) hb4
  have kU := Kept.on (kept (b := W.heap.size + 1 + 1) (o := .cells (nine u) 35 (0, 0)) (by go_simp)) hb4
  have kR := Kept.on (kept (b := W.heap.size + 1 + 1 + 1) (o := .cells (rmp 0 0) 111 (0, 0)) (by go_simp)) hb4
  have kA := Kept.on (kept (b := A) (o := .cells (nine a) 35 (0, 0)) (by go_simp)) hb4
  have kB := Kept.on (kept (b := B) (o := .cells (nine b) 35 (0, 0)) (by go_simp)) hb4
  have b4 : Hid (Below W.heap.size W w4) := below_to (by repeat (first | exact Below.refl _ _ | exact below_new _ | exact b3.out | assumption | refine Below.drew ?_ | refine Below.drewN ?_ _ | refine below_alloc ?_ _ | refine below_blk' ?_ (by omega) _)) hb4
  clear hb4
  try clear gP lP nP mP
  obtain ⟨gP, lP, nP, mP⟩ := kP
  try clear gQ lQ nQ mQ
  obtain ⟨gQ, lQ, nQ, mQ⟩ := kQ
  try clear gU lU nU mU
  obtain ⟨gU, lU, nU, mU⟩ := kU
  try clear gR lR nR mR
  obtain ⟨gR, lR, nR, mR⟩ := kR
  try clear gA lA nA mA
  obtain ⟨gA, lA, nA, mA⟩ := kA
  try clear gB lB nB mB
  obtain ⟨gB, lB, nB, mB⟩ := kB
  clear b3
  go_upto_region 4 with (fail)
  obtain ⟨C, hC⟩ : ∃ b, w4.heap.size = b := ⟨_, rfl⟩
  have wC : W.heap.size ≤ C := by rw [← hC]; exact b4.out.size
  have ePC : (W.heap.size = C) = False := by rw [← hC]; exact nP
  have eCP : (C = W.heap.size) = False := by rw [← hC]; exact mP
  have eQC : (W.heap.size + 1 = C) = False := by rw [← hC]; exact nQ
  have eCQ : (C = W.heap.size + 1) = False := by rw [← hC]; exact mQ
  have eUC : (W.heap.size + 1 + 1 = C) = False := by rw [← hC]; exact nU
  have eCU : (C = W.heap.size + 1 + 1) = False := by rw [← hC]; exact mU
  have eRC : (W.heap.size + 1 + 1 + 1 = C) = False := by rw [← hC]; exact nR
  have eCR : (C = W.heap.size + 1 + 1 + 1) = False := by rw [← hC]; exact mR
  have eAC : (A = C) = False := by rw [← hC]; exact nA
  have eCA : (C = A) = False := by rw [← hC]; exact mA
  have eBC : (B = C) = False := by rw [← hC]; exact nB
  have eCB : (C = B) = False := by rw [← hC]; exact mB
  obtain ⟨w5, hw5⟩ : ∃ w5, w4.alloc (.cells (nine c) 35) = w5 := ⟨_, rfl⟩
  have kP := kept (show hget w5 (W.heap.size) = some (.cells (rmp x z) 111 (0, 0)) by rw [← hw5]; clear hw5; go_simp)
  have kQ := kept (show hget w5 (W.heap.size + 1) = some (.cells (rmp x' z') 111 (0, 0)) by rw [← hw5]; clear hw5; go_simp)
  have kU := kept (show hget w5 (W.heap.size + 1 + 1) = some (.cells (nine u) 35 (0, 0)) by rw [← hw5]; clear hw5; go_simp)
  have kR := kept (show hget w5 (W.heap.size + 1 + 1 + 1) = some (.cells (rmp 0 0) 111 (0, 0)) by rw [← hw5]; clear hw5; go_simp)
  have kA := kept (show hget w5 (A) = some (.cells (nine a) 35 (0, 0)) by rw [← hw5]; clear hw5; go_simp)
  have kB := kept (show hget w5 (B) = some (.cells (nine b) 35 (0, 0)) by rw [← hw5]; clear hw5; go_simp)
  have kC := kept (show hget w5 (w4.heap.size) = some (.cells (nine c) 35) by rw [← hw5]; clear hw5; go_simp)
  have b5 : Hid (Below W.heap.size W w5) := by rw [← hw5]; repeat (first | exact Below.refl _ _ | exact below_new _ | exact b4.out | assumption | refine Below.drew ?_ | refine Below.drewN ?_ _ | refine below_alloc ?_ _ | refine below_blk' ?_ (by omega) _)
  rw [hw5]
  clear hw5
  try clear gP lP nP mP
  try clear jP
  have jP := kP.later
  obtain ⟨gP, lP, nP, mP⟩ := kP
  try clear gQ lQ nQ mQ
  try clear jQ
  have jQ := kQ.later
  obtain ⟨gQ, lQ, nQ, mQ⟩ := kQ
  try clear gU lU nU mU
  try clear jU
  have jU := kU.later
  obtain ⟨gU, lU, nU, mU⟩ := kU
  try clear gR lR nR mR
  try clear jR
  have jR := kR.later
  obtain ⟨gR, lR, nR, mR⟩ := kR
  try clear gA lA nA mA
  try clear jA
  have jA := kA.later
  obtain ⟨gA, lA, nA, mA⟩ := kA
  try clear gB lB nB mB
  try clear jB
  have jB := kB.later
  obtain ⟨gB, lB, nB, mB⟩ := kB
  try clear gC lC nC mC
  try clear jC
  have jC := kC.later
  obtain ⟨gC, lC, nC, mC⟩ := kC
  clear b4
  rw [hC] at *
  clear hC
  go_wp2_with fail
  try clear jP jQ jU jR jA jB jC
  refine (S3.out _).mono ?_
  rintro e w6 ⟨rfl, hb6⟩
  have kP := Kept.on (kept (b := W.heap.size) (o := .cells (rmp x z) 111 (0, 0)) (by go_simp)) hb6
  have kQ := Kept.on (kept (b := W.heap.size + 1) (o := .cells (rmp x' z') 111 (0, 0)) (by go_simp)) hb6
  have kU := Kept.on (kept (b := W.heap.size + 1 + 1) (o := .cells (nine u) 35 (0, 0)) (by go_simp)) hb6
  have kR := Kept.on (kept (b := W.heap.size + 1 + 1 + 1) (o := .cells (rmp 0 0) 111 (0, 0)) (by go_simp)) hb6
  have kA := Kept.on (kept (b := A) (o := .cells (nine a) 35 (0, 0)) (by go_simp)) hb6
  have kB := Kept.on (kept (b := B) (o := .cells (nine b) 35 (0, 0)) (by go_simp)) hb6
  have kC := Kept.on (kept (b := C) (o := .cells (nine c) 35 (0, 0)) (by go_simp)) hb6
  have b6 : Hid (Below W.heap.size W w6) := below_to (by repeat (first | exact Below.refl _ _ | exact below_new _ | exact b5.out | assumption | refine Below.drew ?_ | refine Below.drewN ?_ _ | refine below_alloc ?_ _ | refine below_blk' ?_ (by omega) _)) hb6
  clear hb6
  try clear gP lP nP mP
  obtain ⟨gP, lP, nP, mP⟩ := kP
  try clear gQ lQ nQ mQ
  obtain ⟨gQ, lQ, nQ, mQ⟩ := kQ
  try clear gU lU nU mU
  obtain ⟨gU, lU, nU, mU⟩ := kU
  try clear gR lR nR mR
  obtain ⟨gR, lR, nR, mR⟩ := kR
  try clear gA lA nA mA
  obtain ⟨gA, lA, nA, mA⟩ := kA
  try clear gB lB nB mB
  obtain ⟨gB, lB, nB, mB⟩ := kB
  try clear gC lC nC mC
  obtain ⟨gC, lC, nC, mC⟩ := kC
  clear b5
  go_upto_region 5 with (fail)
  obtain ⟨D, hD⟩ : ∃ b, w6.heap.size = b := ⟨_, rfl⟩
  have wD : W.heap.size ≤ D := by rw [← hD]; exact b6.out.size
  have ePD : (W.heap.size = D) = False := by rw [← hD]; exact nP
  have eDP : (D = W.heap.size) = False := by rw [← hD]; exact mP
  have eQD : (W.heap.size + 1 = D) = False := by rw [← hD]; exact nQ
  have eDQ : (D = W.heap.size + 1) = False := by rw [← hD]; exact mQ
  have eUD : (W.heap.size + 1 + 1 = D) = False := by rw [← hD]; exact nU
  have eDU : (D = W.heap.size + 1 + 1) = False := by rw [← hD]; exact mU
  have eRD : (W.heap.size + 1 + 1 + 1 = D) = False := by rw [← hD]; exact nR
  have eDR : (D = W.heap.size + 1 + 1 + 1) = False := by rw [← hD]; exact mR
  have eAD : (A = D) = False := by rw [← hD]; exact nA
  have eDA : (D = A) = False := by rw [← hD]; exact mA
  have eBD : (B = D) = False := by rw [← hD]; exact nB
  have eDB : (D = B) = False := by rw [← hD]; exact mB
  have eCD : (C = D) = False := by rw [← hD]; exact nC
  have eDC : (D = C) = False := by rw [← hD]; exact mC
  obtain ⟨w7, hw7⟩ : ∃ w7, w6.alloc (.cells (nine d) 35) = w7 := ⟨_, rfl⟩
  have kP := kept (show hget w7 (W.heap.size) = some (.cells (rmp x z) 111 (0, 0)) by rw [← hw7]; clear hw7; go_simp)
  have kQ := kept (show hget w7 (W.heap.size + 1) = some (.cells (rmp x' z') 111 (0, 0)) by rw [← hw7]; clear hw7; go_simp)
  have kU := kept (show hget w7 (W.heap.size + 1 + 1) = some (.cells (nine u) 35 (0, 0)) by rw [← hw7]; clear hw7; go_simp)
  have kR := kept (show hget w7 (W.heap.size + 1 + 1 + 1) = some (.cells (rmp 0 0) 111 (0, 0)) by rw [← hw7]; clear hw7; go_simp)
  have kA := kept (show hget w7 (A) = some (.cells (nine a) 35 (0, 0)) by rw [← hw7]; clear hw7; go_simp)
  have kB := kept (show hget w7 (B) = some (.cells (nine b) 35 (0, 0)) by rw [← hw7]; clear hw7; go_simp)
  have kC := kept (show hget w7 (C) = some (.cells (nine c) 35 (0, 0)) by rw [← hw7]; clear hw7; go_simp)
  have kD := kept (show hget w7 (w6.heap.size) = some (.cells (nine d) 35) by rw [← hw7]; clear hw7; go_simp)
  have b7 : Hid (Below W.heap.size W w7) := by rw [← hw7]; repeat (first | exact Below.refl _ _ | exact below_new _ | exact b6.out | assumption | refine Below.drew ?_ | refine Below.drewN ?_ _ | refine below_alloc ?_ _ | refine below_blk' ?_ (by omega) _)
  rw [hw7]
  clear hw7
  try clear gP lP nP mP
  try clear jP
  have jP := kP.later
  obtain ⟨gP, lP, nP, mP⟩ := kP
  try clear gQ lQ nQ mQ
  try clear jQ
  have jQ := kQ.later
  obtain ⟨gQ, lQ, nQ, mQ⟩ := kQ
  try clear gU lU nU mU
  try clear jU
  have jU := kU.later
  obtain ⟨gU, lU, nU, mU⟩ := kU
  try clear gR lR nR mR
  try clear jR
  have jR := kR.later
  obtain ⟨gR, lR, nR, mR⟩ := kR
  try clear gA lA nA mA
  try clear jA
  have jA := kA.later
  obtain ⟨gA, lA, nA, mA⟩ := kA
  try clear gB lB nB mB
  try clear jB
  have jB := kB.later
  obtain ⟨gB, lB, nB, mB⟩ := kB
  try clear gC lC nC mC
  try clear jC
  have jC := kC.later
  obtain ⟨gC, lC, nC, mC⟩ := kC
  try clear gD lD nD mD
  try clear jD
  have jD := kD.later
  obtain ⟨gD, lD, nD, mD⟩ := kD
  clear b6
  rw [hD] at *
  clear hD
  clear A3 S3
  have jP := Kept.later (kept gP)
  have jQ := Kept.later (kept gQ)
  have jU := Kept.later (kept gU)
  have jR := Kept.later (kept gR)
  have jA := Kept.later (kept gA)
  have jB := Kept.later (kept gB)
  have jC := Kept.later (kept gC)
  have jD := Kept.later (kept gD)
  refine wp_region_later_tail 9 (by kernel_rfl) (by kernel_rfl) ?_
  simp only [List.take_succ_cons, List.take_zero, List.drop_succ_cons, List.drop_zero]
  repeat ((go_big_quiet_step ((go_at_call 55; first | with_reducible exact calls_later (M3.out _) | with_reducible exact calls_later (M4.out _) | with_reducible exact calls_later (M5.out _)))))
  refine wpQuiet_nil ?_
  intro wL hwL
  obtain ⟨⟨w8, hL⟩, e8⟩ := hwL
  change wL = w8 at e8
  subst e8
  obtain ⟨gR, lR, nR, mR⟩ := kept (jR ⟨_, hL⟩)
  go_wp2_with fail
  refine bodyPost_ret (v := .agg (rmp (rm c c) (rm u (rm d d)))) (results_cell_row Try.results78 _ _ (W.heap.size + 1 + 1 + 1) 111 (rmp (rm c c) (rm u (rm d d))) (0, 0) _ (by rfl) (by rw [← hget_eq]; go_simp) Try.underlying111 rfl (by rw [info_RMp]; go_simp)) rfl ?_
  exact ⟨rfl, below_blk' (below_to b7.out hL) (by omega) _⟩

set_option maxRecDepth 100000 in
theorem rtwice_any (x z : Nat) (W : World) (hx : x < pP) (hz : z < pP) : Calls Try.prog 79 #[.agg (rmp x z)] W fun r w' => r = .returned (.agg (rmp (Rd.twX x z) (Rd.twZ x z))) ∧ Below W.heap.size W w' :=
  rtwice_core x z _ _ _ _ _ _ W hx hz rfl rfl rfl rfl rfl rfl
set_option maxRecDepth 100000 in
theorem rsum_any (s : Ld) (u : Nat) (W : World) (hs : Rd.bd s) (hu : u < pP) : Calls Try.prog 78 #[.agg (rmp s.lx s.lz), .agg (rmp s.hx s.hz), .agg (nine u)] W fun r w' => r = .returned (.agg (rmp (Rd.suX s) (Rd.suZ u s))) ∧ Below W.heap.size W w' :=
  rsum_core s u _ _ _ _ W hs hu rfl rfl rfl rfl

end Go.Proofs.Ytceljjnohjnepaa

namespace Go.Proofs.Ytceljjnohjnepaa
open Go Go.RowKit

/-- The block, its stores, what it holds ahead of them, between them, behind them. -/
structure Two where
  b : Nat
  s1 : Nat
  s2 : Nat
  c0 : Array Value
  c1 : Array Value
  c2 : Array Value
  T : TypeId
def Two.cells (t : Two) (S : Nat → Bool) : Array Value := if S t.s2 then t.c2 else if S t.s1 then t.c1 else t.c0
abbrev Two.ex (t : Two) : Nat → Prop := fun b => b = t.b
def Two.Inv (t : Two) (w : World) : InvT := fun S _ w' => Out t.ex w w' ∧ hget w' t.b = some (.cells (t.cells S) t.T (0, 0))
def Two.C (t : Two) (w : World) (w' : World) : Prop := Out t.ex w w' ∧ ∃ c, (c = t.c0 ∨ c = t.c1 ∨ c = t.c2) ∧ hget w' t.b = some (.cells c t.T (0, 0))
abbrev Two.Post (t : Two) (w : World) (l : List Oper) : PostT := PostI l.toArray [] (t.Inv w)
section
variable {P : Program} {w : World} {t : Two} {l : List Oper} {Q : Act → Prop} {i : Nat} {a : Act} {o : Oper} {rest : List Oper}
set_option maxRecDepth 100000 in
theorem Two.also_ne {S : Nat → Bool} {i : Nat} (h1 : t.s1 ≠ i) (h2 : t.s2 ≠ i) : t.cells (also S i) = t.cells S := by
  unfold Two.cells also
  rw [if_neg h1, if_neg h2]
set_option maxRecDepth 100000 in
theorem Two.Inv.quiet {S : Nat → Bool} {g : Nat → Value} {w1 x : World} {i : Nat} (h : t.Inv w S g w1) (h1 : t.s1 ≠ i) (h2 : t.s2 ≠ i) (hb : Below w1.heap.size w1 x) : t.Inv w (also S i) g x :=
  ⟨h.1.then (Out.of_below hb), by rw [Two.also_ne h1 h2, hget_eq, hb.block _ (hget_lt h.2)]; exact h.2⟩
set_option maxRecDepth 100000 in
theorem Two.Inv.c {S : Nat → Bool} {g : Nat → Value} {w1 : World} (h : t.Inv w S g w1) : t.C w w1 := by
  refine ⟨h.1, _, ?_, h.2⟩
  unfold Two.cells
  split
  · exact .inr (.inr rfl)
  · split
    · exact .inr (.inl rfl)
    · exact .inl rfl
set_option maxRecDepth 100000 in
theorem wp_region_two' {id : Nat} {Q : Exit → Act → World → Prop} {a : Act} {l : List Oper} (t : Two) (hm : P.follows .mixedOrders = true) (hB : Region.lexB .any l.toArray = true) (h0 : hget w t.b = some (.cells t.c0 t.T (0, 0)))
    (hg : l.all (fun o => o.guard.isNone) = true) (hs2 : t.s2 < l.length)
    (h : wpGho P l.toArray [] (fun _ _ _ => True) (t.C w) (t.Post w l) (fun a' => ∀ w', Out t.ex w w' → hget w' t.b = some (.cells t.c2 t.T (0, 0)) → Q .normal a' w') 0 l a) : (Code.region id l.toArray true).wp P Q a w := by
  refine wp_region_inv [] (fun _ _ _ => True) (t.C w) (t.Inv w) hm hB rfl ⟨(Out.refl _ _).drew, h0⟩ (fun S g w' h => h.c) (fun _ _ _ _ hp => absurd hp (by simp)) (fun S g w' i o ho hgd _ => ?_) ?_
  · rw [List.all_eq_true] at hg
    have := hg o (List.mem_of_getElem? ho)
    rw [Option.isNone_iff_eq_none] at this
    exact absurd this hgd
  · refine wpGho_mono (fun a' hq => ?_) _ _ _ h
    intro S g w' hall hinv
    refine hq w' hinv.1 ?_
    have := hinv.2
    unfold Two.cells at this
    rwa [hall _ hs2, if_pos rfl] at this
set_option maxRecDepth 100000 in
/-- An operation that reads elsewhere. -/
theorem wpT_plain (_hsel : isSelect o = false) (h1 : (t.s1 != i) = true) (h2 : (t.s2 != i) = true)
    (h : ∀ K : Act → Prop, (∀ a, wpGho P l.toArray [] (fun _ _ _ => True) (t.C w) (t.Post w l) Q (i + 1) rest a → K a) →
      if Region.wanted o (yielded l.toArray a.tmps) then ∃ v, (∀ x : LaterX t.ex w, gOut P x.w' (fun u _ => u = v) ((execOp a.eval o).run P x.w')) ∧ K (a.put o.dst v) else K (a.put o.dst undef)) :
    wpGho P l.toArray [] (fun _ _ _ => True) (t.C w) (t.Post w l) Q i (o :: rest) a := by
  have k := h _ (fun _ h => h)
  have e1 : t.s1 ≠ i := by simpa using h1
  have e2 : t.s2 ≠ i := by simpa using h2
  cases hw : Region.wanted o (yielded l.toArray a.tmps)
  · rw [hw] at k
    exact ⟨undef, .inr ⟨hw, rfl⟩, k⟩
  · rw [hw, if_pos rfl] at k
    obtain ⟨v, a1, a2⟩ := k
    refine ⟨v, .inl ⟨hw, ?_⟩, a2⟩
    intro g w1 hC _
    refine gRaw_mono (fun u y hh S _ _ hinv => ?_) (gRaw_of_gOut (a1 ⟨w1, hC.1⟩))
    exact ⟨fun _ => hh.2, hinv.quiet e1 e2 hh.1⟩
set_option maxRecDepth 100000 in
/-- The first store. -/
theorem wpT_first (hst : t.s1 = i) (hne : t.s1 ≠ t.s2) (hw2 : ∀ o2, l[t.s2]? = some o2 → waitsB o2 t.s1 = true) (ho2 : t.s2 < l.length) (hg : o.guard = none)
    (h : ∀ K : Act → Prop, (∀ a, wpGho P l.toArray [] (fun _ _ _ => True) (t.C w) (t.Post w l) Q (i + 1) rest a → K a) →
      (∀ x : World, hget x t.b = some (.cells t.c0 t.T (0, 0)) → (execOp a.eval o).run P x = .ok .skip (blk x t.b (.cells t.c1 t.T (0, 0)))) ∧ (∀ x : World, hget x t.b = some (.cells t.c1 t.T (0, 0)) → ∃ y, (execOp a.eval o).run P x = .ok .skip y) ∧
      (∀ x : World, hget x t.b = some (.cells t.c2 t.T (0, 0)) → ∃ y, (execOp a.eval o).run P x = .ok .skip y) ∧ K (a.put o.dst undef)) :
    wpGho P l.toArray [] (fun _ _ _ => True) (t.C w) (t.Post w l) Q i (o :: rest) a := by
  obtain ⟨a1, b1, b2, a2⟩ := h _ (fun _ h => h)
  refine ⟨undef, .inl ⟨by unfold Region.wanted; rw [hg], ?_⟩, a2⟩
  intro g w1 hC _
  have fin : ∀ S, CloS l.toArray S → Due l.toArray S i → t.Inv w S g w1 → hget w1 t.b = some (.cells t.c0 t.T (0, 0)) := fun S hclo hdue hinv => by
    have h1 : S t.s1 = false := by rw [hst]; exact hdue.1
    have h2 : S t.s2 = false := by
      cases hS : S t.s2 with
      | false => rfl
      | true =>
        have ho := List.getElem?_eq_getElem ho2
        have hw := hw2 _ ho
        unfold waitsB at hw
        obtain ⟨e, he, hb⟩ := Array.any_eq_true'.1 hw
        simp only [Bool.and_eq_true, beq_iff_eq] at hb
        have := hclo t.s2 _ (by simp) hS e he hb.1
        rw [hb.2, h1] at this; cases this
    have h3 := hinv.2
    unfold Two.cells at h3
    rwa [h2, h1, if_neg (by simp), if_neg (by simp)] at h3
  have go : ∀ y, (execOp a.eval o).run P w1 = .ok .skip y → gRaw P w1 (fun u x => t.Post w l i undef g w1 u x) ((execOp a.eval o).run P w1) := by
    intro y hy
    rw [hy]
    show PostI _ _ _ _ _ _ _ _ _
    intro S hclo hdue hinv
    have h0 := fin S hclo hdue hinv
    have hr := a1 w1 h0
    rw [hy] at hr
    injection hr with _ hr
    subst hr
    refine ⟨fun _ => rfl, hinv.1.blk (.inl rfl) _, ?_⟩
    have hlt := hget_lt h0
    have h2 : S t.s2 = false := by
      cases hS : S t.s2 with
      | false => rfl
      | true =>
        have ho := List.getElem?_eq_getElem ho2
        have hw := hw2 _ ho
        unfold waitsB at hw
        obtain ⟨e, he, hb⟩ := Array.any_eq_true'.1 hw
        simp only [Bool.and_eq_true, beq_iff_eq] at hb
        have := hclo t.s2 _ (by simp) hS e he hb.1
        rw [hb.2, hst, hdue.1] at this; cases this
    unfold Two.cells also
    rw [if_neg (show t.s2 ≠ i from fun e => hne (by rw [hst, e])), h2, if_neg (by simp), if_pos hst, if_pos rfl]
    exact blk_hit hlt
  obtain ⟨_, c, hc, hx⟩ := hC
  rcases hc with rfl | rfl | rfl
  · exact go _ (a1 w1 hx)
  · obtain ⟨y, hy⟩ := b1 w1 hx
    exact go y hy
  · obtain ⟨y, hy⟩ := b2 w1 hx
    exact go y hy
set_option maxRecDepth 100000 in
/-- The second store. -/
theorem wpT_second (hst : t.s2 = i) (hw : waitsB o t.s1 = true) (hoi : l[i]? = some o) (hg : o.guard = none)
    (h : ∀ K : Act → Prop, (∀ a, wpGho P l.toArray [] (fun _ _ _ => True) (t.C w) (t.Post w l) Q (i + 1) rest a → K a) →
      (∀ x : World, hget x t.b = some (.cells t.c1 t.T (0, 0)) → (execOp a.eval o).run P x = .ok .skip (blk x t.b (.cells t.c2 t.T (0, 0)))) ∧ (∀ x : World, hget x t.b = some (.cells t.c0 t.T (0, 0)) → ∃ y, (execOp a.eval o).run P x = .ok .skip y) ∧
      (∀ x : World, hget x t.b = some (.cells t.c2 t.T (0, 0)) → ∃ y, (execOp a.eval o).run P x = .ok .skip y) ∧ K (a.put o.dst undef)) :
    wpGho P l.toArray [] (fun _ _ _ => True) (t.C w) (t.Post w l) Q i (o :: rest) a := by
  obtain ⟨a1, b1, b2, a2⟩ := h _ (fun _ h => h)
  refine ⟨undef, .inl ⟨by unfold Region.wanted; rw [hg], ?_⟩, a2⟩
  intro g w1 hC _
  have go : ∀ y, (execOp a.eval o).run P w1 = .ok .skip y → gRaw P w1 (fun u x => t.Post w l i undef g w1 u x) ((execOp a.eval o).run P w1) := by
    intro y hy
    rw [hy]
    show PostI _ _ _ _ _ _ _ _ _
    intro S hclo hdue hinv
    have h1 : S t.s1 = true := by
      unfold waitsB at hw
      obtain ⟨e, he, hb⟩ := Array.any_eq_true'.1 hw
      simp only [Bool.and_eq_true, beq_iff_eq] at hb
      have := hdue.2 o (by simpa using hoi) e he hb.1
      rwa [hb.2] at this
    have h2 : S t.s2 = false := by rw [hst]; exact hdue.1
    have h0 := hinv.2
    unfold Two.cells at h0
    rw [h2, h1, if_neg (by simp), if_pos rfl] at h0
    have hr := a1 w1 h0
    rw [hy] at hr
    injection hr with _ hr
    subst hr
    refine ⟨fun _ => rfl, hinv.1.blk (.inl rfl) _, ?_⟩
    have hlt := hget_lt h0
    unfold Two.cells also
    rw [if_pos hst, if_pos rfl]
    exact blk_hit hlt
  obtain ⟨_, c, hc, hx⟩ := hC
  rcases hc with rfl | rfl | rfl
  · obtain ⟨y, hy⟩ := b1 w1 hx
    exact go y hy
  · exact go _ (a1 w1 hx)
  · obtain ⟨y, hy⟩ := b2 w1 hx
    exact go y hy
end

end Go.Proofs.Ytceljjnohjnepaa
