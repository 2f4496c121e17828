/- The document's curve: its number, the zero point, sums. Both ladders of Montgomery's curve: what they reckon; the same; the multiple of a point. -/
import Derived.Test.YtceljjnohjnepaaM14
namespace Go.Proofs.Ytceljjnohjnepaa
open Go Go.RowKit DG

set_option maxRecDepth 100000 in
theorem rpt_zero : (#[.int .u64 0, .int .u64 0, .int .u64 0, .int .u64 0, .int .u64 0, .int .u64 0, .int .u64 0, .int .u64 0, .int .u64 0, .int .u64 0, .int .u64 0, .int .u64 0, .int .u64 0, .int .u64 0, .int .u64 0, .int .u64 0, .int .u64 0, .int .u64 0, .int .u64 0, .int .u64 0, .int .u64 0, .int .u64 0, .int .u64 0, .int .u64 0, .int .u64 0, .int .u64 0, .int .u64 0] : Array Value) = rpt 0 0 0 := rfl
def buildRowR (t : TypeId) (ps : Array (Nat × Value)) : Sem Value := Instr.build t ps
set_option maxRecDepth 100000 in
theorem exb_RPt {r : Operand → Value} {dst : Option Nat} {ps : Array (Nat × Operand)} {t : TypeId} {pos : String} {af : Array Edge} {g : Option (Nat × Bool)} : execOp r ⟨dst, .build 46 ps, t, pos, af, g⟩ = (do let v ← buildRowR 46 (ps.map fun (i, x) => (i, r x)); pure (Next.value v)) := rfl
set_option maxRecDepth 100000 in
theorem bld_rpt (x y z : Nat) (w : World) : (buildRowR 46 #[(0, .agg (nine x)), (1, .agg (nine y)), (2, .agg (nine z))]).run Try.prog w = .ok (.agg (rpt x y z)) w :=
  run_build w 46 _ _ (by kernel_rfl)
set_option maxRecDepth 100000 in
theorem bld_rpt0 (w : World) : (buildRowR 46 #[]).run Try.prog w = .ok (.agg (rpt 0 0 0)) w := run_build w 46 _ _ (by kernel_rfl)
set_option maxRecDepth 100000 in
theorem bld_rptz (y z : Nat) (w : World) : (buildRowR 46 #[(1, .agg (nine y)), (2, .agg (nine z))]).run Try.prog w = .ok (.agg (rpt 0 y z)) w :=
  run_build w 46 _ _ (by kernel_rfl)
attribute [local go_sem ↓] exl_Num exs_Num exl_RPt exs_RPt exb_RPt
                                      attribute [local go_sem] ldm_Num str_Num ldr_RPt str_RPt to_nine0 rpt_zero bld_rpt bld_rpt0
abbrev rv (s : R3) : Value := .agg (rpt s.x s.y s.z)

set_option maxRecDepth 100000 in
theorem rmul_v (a b : Nat) (w : World) (ha : a < pP) (hb : b < pP) : Calls Try.prog 55 #[.agg (nine a), .agg (nine b)] w fun e w' => e = .returned (.agg (nine (rm a b))) ∧ Below w.heap.size w w' := ref_Mul a b w ha hb
set_option maxRecDepth 100000 in
theorem radd_v (a b : Nat) (w : World) (ha : a < pP) (hb : b < pP) : Calls Try.prog 58 #[.agg (nine a), .agg (nine b)] w fun e w' => e = .returned (.agg (nine (ra a b))) ∧ Below w.heap.size w w' := ref_Add a b w ha (Nat.le_of_lt hb)
set_option maxRecDepth 100000 in
theorem rsub_v (a b : Nat) (w : World) (ha : a < pP) (hb : b < pP) : Calls Try.prog 57 #[.agg (nine a), .agg (nine b)] w fun e w' => e = .returned (.agg (nine (rs a b))) ∧ Below w.heap.size w w' := ref_Sub a b w ha (Nat.le_of_lt hb)
set_option maxRecDepth 100000 in
theorem dB_mod : bytesNat dB.data.toList % pP = dN := by rw [dB_nat]; exact Nat.mod_eq_of_lt dN_pP
set_option maxRecDepth 100000 in
set_option maxHeartbeats 1000000 in
theorem given_any (W : World) : Calls Try.prog 21 #[] W fun r w' => r = .returned (.agg (nine dN)) ∧ Below W.heap.size W w' := by
  have O1 := fun w => ref_Of dB w (by decide)
  rw [dB_mod] at O1
  have HO := hid O1
  clear O1
  go_enter Try.func21, Try.ntmps21
  go_wp2_with fail
  obtain ⟨w1, hw1⟩ : ∃ w1, W.alloc (.cells (nine 0) 35) = w1 := ⟨_, rfl⟩
  have kR := kept (show hget w1 (W.heap.size) = some (.cells (nine 0) 35 (0, 0)) by rw [← hw1]; clear hw1; go_simp)
  have b1 : Hid (Below W.heap.size W w1) := by rw [← hw1]; repeat (first | exact Below.refl _ _ | exact below_new _ | assumption | refine Below.drew ?_ | refine Below.drewN ?_ _ | refine below_alloc ?_ _ | refine below_blk' ?_ (by omega) _)
  rw [hw1]
  clear hw1
  try clear gR lR nR mR
  try clear jR
  have jR := kR.later
  obtain ⟨gR, lR, nR, mR⟩ := kR
  try clear jR
  refine (HO.out _).mono ?_
  rintro e w2 ⟨rfl, hb2⟩
  have kR := Kept.on (kept (b := W.heap.size) (o := .cells (nine 0) 35 (0, 0)) (by go_simp)) hb2
  have b2 : Hid (Below W.heap.size W w2) := below_to (by repeat (first | exact Below.refl _ _ | exact below_new _ | exact b1.out | assumption | refine Below.drew ?_ | refine Below.drewN ?_ _ | refine below_alloc ?_ _ | refine below_blk' ?_ (by omega) _)) hb2
  clear hb2
  try clear gR lR nR mR
  obtain ⟨gR, lR, nR, mR⟩ := kR
  clear b1
  go_wp2_with fail
  refine bodyPost_ret (v := .agg (nine dN)) (results_cell_row Try.results21 _ _ (W.heap.size) 35 (nine dN) (0, 0) _ (by rfl) (by rw [← hget_eq]; go_simp) Try.underlying35 rfl (by rw [info_Num]; go_simp)) rfl ?_
  exact ⟨rfl, below_blk' b2.out (by omega) _⟩

set_option maxRecDepth 100000 in
theorem dval : rm (rs 0 121665) (rInv 121666) = dN := by decide +kernel
set_option maxRecDepth 100000 in
set_option maxHeartbeats 1000000 in
theorem d_ref (W : World) : Calls Try.prog 22 #[] W fun r w' => r = .returned (.agg (nine dN)) ∧ Below W.heap.size W w' := by
  have hv := hid dval
  have S1 := hid (fun w => ref_Small 121665 w (by decide))
  have S2 := hid (fun w => ref_Small 121666 w (by decide))
  have U1 := hid (fun w => rsub_v 0 121665 w (by decide) (by decide))
  have I1 := hid (fun w => ref_Inv 121666 w (by decide))
  have M1 := fun w => rmul_v (rs 0 121665) (rInv 121666) w (rs_lt _ _) (rPow_lt _ _)
  rw [hv.out] at M1
  generalize rInv 121666 = i at *
  generalize rs 0 121665 = a at *
  generalize dN = d at *
  generalize hn1 : nine 121665 = n1 at *
  generalize hn2 : nine 121666 = n2 at *
  clear hn1 hn2
  have M1 := hid M1
  go_enter Try.func22, Try.ntmps22
  go_wp2_with fail
  obtain ⟨w1, hw1⟩ : ∃ w1, W.alloc (.cells (nine 0) 35) = w1 := ⟨_, rfl⟩
  have kR := kept (show hget w1 (W.heap.size) = some (.cells (nine 0) 35 (0, 0)) by rw [← hw1]; clear hw1; go_simp)
  have b1 : Hid (Below W.heap.size W w1) := by rw [← hw1]; repeat (first | exact Below.refl _ _ | exact below_new _ | assumption | refine Below.drew ?_ | refine Below.drewN ?_ _ | refine below_alloc ?_ _ | refine below_blk' ?_ (by omega) _)
  rw [hw1]
  clear hw1
  try clear gR lR nR mR
  try clear jR
  have jR := kR.later
  obtain ⟨gR, lR, nR, mR⟩ := kR
  try clear jR
  refine (S1.out _).mono ?_
  rintro e w2 ⟨rfl, hb2⟩
  have kR := Kept.on (kept (b := W.heap.size) (o := .cells (nine 0) 35 (0, 0)) (by go_simp)) hb2
  have b2 : Hid (Below W.heap.size W w2) := below_to (by repeat (first | exact Below.refl _ _ | exact below_new _ | exact b1.out | assumption | refine Below.drew ?_ | refine Below.drewN ?_ _ | refine below_alloc ?_ _ | refine below_blk' ?_ (by omega) _)) hb2
  clear hb2
  try clear gR lR nR mR
  obtain ⟨gR, lR, nR, mR⟩ := kR
  clear b1
  go_wp2_with fail
  try clear jR
  refine (U1.out _).mono ?_
  rintro e w3 ⟨rfl, hb3⟩
  have kR := Kept.on (kept (b := W.heap.size) (o := .cells (nine 0) 35 (0, 0)) (by go_simp)) hb3
  have b3 : Hid (Below W.heap.size W w3) := below_to (by repeat (first | exact Below.refl _ _ | exact below_new _ | exact b2.out | assumption | refine Below.drew ?_ | refine Below.drewN ?_ _ | refine below_alloc ?_ _ | refine below_blk' ?_ (by omega) _)) hb3
  clear hb3
  try clear gR lR nR mR
  obtain ⟨gR, lR, nR, mR⟩ := kR
  clear b2
  go_wp2_with fail
  try clear jR
  refine (S2.out _).mono ?_
  rintro e w4 ⟨rfl, hb4⟩
  have kR := Kept.on (kept (b := W.heap.size) (o := .cells (nine 0) 35 (0, 0)) (by go_simp)) hb4
  have b4 : Hid (Below W.heap.size W w4) := below_to (by repeat (first | exact Below.refl _ _ | exact below_new _ | exact b3.out | assumption | refine Below.drew ?_ | refine Below.drewN ?_ _ | refine below_alloc ?_ _ | refine below_blk' ?_ (by omega) _)) hb4
  clear hb4
  try clear gR lR nR mR
  obtain ⟨gR, lR, nR, mR⟩ := kR
  clear b3
  go_wp2_with fail
  try clear jR
  refine (I1.out _).mono ?_
  rintro e w5 ⟨rfl, hb5⟩
  have kR := Kept.on (kept (b := W.heap.size) (o := .cells (nine 0) 35 (0, 0)) (by go_simp)) hb5
  have b5 : Hid (Below W.heap.size W w5) := below_to (by repeat (first | exact Below.refl _ _ | exact below_new _ | exact b4.out | assumption | refine Below.drew ?_ | refine Below.drewN ?_ _ | refine below_alloc ?_ _ | refine below_blk' ?_ (by omega) _)) hb5
  clear hb5
  try clear gR lR nR mR
  obtain ⟨gR, lR, nR, mR⟩ := kR
  clear b4
  go_wp2_with fail
  try clear jR
  refine (M1.out _).mono ?_
  rintro e w6 ⟨rfl, hb6⟩
  have kR := Kept.on (kept (b := W.heap.size) (o := .cells (nine 0) 35 (0, 0)) (by go_simp)) hb6
  have b6 : Hid (Below W.heap.size W w6) := below_to (by repeat (first | exact Below.refl _ _ | exact below_new _ | exact b5.out | assumption | refine Below.drew ?_ | refine Below.drewN ?_ _ | refine below_alloc ?_ _ | refine below_blk' ?_ (by omega) _)) hb6
  clear hb6
  try clear gR lR nR mR
  obtain ⟨gR, lR, nR, mR⟩ := kR
  clear b5
  go_wp2_with fail
  refine bodyPost_ret (v := .agg (nine d)) (results_cell_row Try.results22 _ _ (W.heap.size) 35 (nine d) (0, 0) _ (by rfl) (by rw [← hget_eq]; go_simp) Try.underlying35 rfl (by rw [info_Num]; go_simp)) rfl ?_
  exact ⟨rfl, below_blk' b6.out (by omega) _⟩

attribute [local go_sem] bld_rptz
set_option maxRecDepth 100000 in
set_option maxHeartbeats 1000000 in
theorem rzero_any (W : World) : Calls Try.prog 91 #[] W fun r w' => r = .returned (rv R3.zero) ∧ Below W.heap.size W w' := by
  have S1 := hid (fun w => ref_Small 1 w (by decide))
  go_enter Try.func91, Try.ntmps91
  go_upto_region 1 with (fail)
  obtain ⟨w1, hw1⟩ : ∃ w1, W.alloc (.cells (rpt 0 0 0) 46) = w1 := ⟨_, rfl⟩
  have kR := kept (show hget w1 (W.heap.size) = some (.cells (rpt 0 0 0) 46 (0, 0)) by rw [← hw1]; clear hw1; go_simp)
  have b1 : Hid (Below W.heap.size W w1) := by rw [← hw1]; repeat (first | exact Below.refl _ _ | exact below_new _ | assumption | refine Below.drew ?_ | refine Below.drewN ?_ _ | refine below_alloc ?_ _ | refine below_blk' ?_ (by omega) _)
  rw [hw1]
  clear hw1
  try clear gR lR nR mR
  try clear jR
  have jR := kR.later
  obtain ⟨gR, lR, nR, mR⟩ := kR
  go_wp2_with fail
  try clear jR
  refine (S1.out _).mono ?_
  rintro e w2 ⟨rfl, hb2⟩
  have kR := Kept.on (kept (b := W.heap.size) (o := .cells (rpt 0 0 0) 46 (0, 0)) (by go_simp)) hb2
  have b2 : Hid (Below W.heap.size W w2) := below_to (by repeat (first | exact Below.refl _ _ | exact below_new _ | exact b1.out | assumption | refine Below.drew ?_ | refine Below.drewN ?_ _ | refine below_alloc ?_ _ | refine below_blk' ?_ (by omega) _)) hb2
  clear hb2
  try clear gR lR nR mR
  obtain ⟨gR, lR, nR, mR⟩ := kR
  clear b1
  go_wp2_with fail
  try clear jR
  refine (S1.out _).mono ?_
  rintro e w3 ⟨rfl, hb3⟩
  have kR := Kept.on (kept (b := W.heap.size) (o := .cells (rpt 0 0 0) 46 (0, 0)) (by go_simp)) hb3
  have b3 : Hid (Below W.heap.size W w3) := below_to (by repeat (first | exact Below.refl _ _ | exact below_new _ | exact b2.out | assumption | refine Below.drew ?_ | refine Below.drewN ?_ _ | refine below_alloc ?_ _ | refine below_blk' ?_ (by omega) _)) hb3
  clear hb3
  try clear gR lR nR mR
  obtain ⟨gR, lR, nR, mR⟩ := kR
  clear b2
  go_wp2_with fail
  refine bodyPost_ret (v := .agg (rpt 0 1 1)) (results_cell_row Try.results91 _ _ (W.heap.size) 46 (rpt 0 1 1) (0, 0) _ (by rfl) (by rw [← hget_eq]; go_simp) Try.underlying46 rfl (by rw [info_RPt]; go_simp)) rfl ?_
  exact ⟨rfl, below_blk' b3.out (by omega) _⟩

end Go.Proofs.Ytceljjnohjnepaa

namespace Go.Proofs.Ytceljjnohjnepaa
open EG DG

/-- Two points by two coordinates each. -/
structure Ld where
  lx : Nat
  lz : Nat
  hx : Nat
  hz : Nat
structure Ld.bd (s : Ld) : Prop where
  lx : s.lx < p2
  lz : s.lz < p2
  hx : s.hx < p2
  hz : s.hz < p2
namespace Ld
def swap (c : Bool) (s : Ld) : Ld := ⟨if c then s.hx else s.lx, if c then s.hz else s.lz, if c then s.lx else s.hx, if c then s.lz else s.hz⟩
def pl (s : Ld) : Nat := addN s.lx s.lz
def mi (s : Ld) : Nat := subN s.lx s.lz
def a (s : Ld) : Nat := mulN (addN s.hx s.hz) s.mi
def b (s : Ld) : Nat := mulN (subN s.hx s.hz) s.pl
def p2' (s : Ld) : Nat := mulN s.pl s.pl
def m2 (s : Ld) : Nat := mulN s.mi s.mi
def e (s : Ld) : Nat := subN s.p2' s.m2
def step (u : Nat) (s : Ld) : Ld := ⟨mulN s.p2' s.m2, mulN (addN s.p2' (mulN 121665 s.e)) s.e, mulN (addN s.a s.b) (addN s.a s.b), mulN (mulN (subN s.a s.b) (subN s.a s.b)) u⟩
def start (u : Nat) : Ld := ⟨1, 0, u, 1⟩
def rounds (u k : Nat) : Nat → Ld
  | 0 => start u
  | j + 1 => swap (decide (bitN k (254 - j) = 1)) (step u (swap (decide (bitN k (254 - j) = 1)) (rounds u k j)))
def out (u k : Nat) : Nat := mulN (rounds u k 255).lx (invN (rounds u k 255).lz)
variable {s : Ld} {u : Nat}
set_option maxRecDepth 100000 in
theorem swap_bd (h : s.bd) (c : Bool) : (swap c s).bd := by cases c; exact ⟨h.lx, h.lz, h.hx, h.hz⟩; exact ⟨h.hx, h.hz, h.lx, h.lz⟩
set_option maxRecDepth 100000 in
theorem pl_lt (h : s.bd) : s.pl < p2 := add_lt h.lx h.lz
set_option maxRecDepth 100000 in
theorem mi_lt (h : s.bd) : s.mi < p2 := sub_lt h.lx h.lz
set_option maxRecDepth 100000 in
theorem a_lt (h : s.bd) : s.a < p2 := mul_lt (add_lt h.hx h.hz) (mi_lt h)
set_option maxRecDepth 100000 in
theorem b_lt (h : s.bd) : s.b < p2 := mul_lt (sub_lt h.hx h.hz) (pl_lt h)
set_option maxRecDepth 100000 in
theorem p2_lt (h : s.bd) : s.p2' < p2 := mul_lt (pl_lt h) (pl_lt h)
set_option maxRecDepth 100000 in
theorem m2_lt (h : s.bd) : s.m2 < p2 := mul_lt (mi_lt h) (mi_lt h)
set_option maxRecDepth 100000 in
theorem e_lt (h : s.bd) : s.e < p2 := sub_lt (p2_lt h) (m2_lt h)
set_option maxRecDepth 100000 in
theorem c_lt : 121665 < p2 := by decide
set_option maxRecDepth 100000 in
theorem step_bd (h : s.bd) (hu : u < p2) : (step u s).bd :=
  ⟨mul_lt (p2_lt h) (m2_lt h), mul_lt (add_lt (p2_lt h) (mul_lt c_lt (e_lt h))) (e_lt h), mul_lt (add_lt (a_lt h) (b_lt h)) (add_lt (a_lt h) (b_lt h)), mul_lt (mul_lt (sub_lt (a_lt h) (b_lt h)) (sub_lt (a_lt h) (b_lt h))) hu⟩
set_option maxRecDepth 100000 in
theorem start_bd (hu : u < p2) : (start u).bd := ⟨show 1 < p2 by decide, show 0 < p2 by decide, hu, show 1 < p2 by decide⟩
set_option maxRecDepth 100000 in
theorem rounds_bd (hu : u < p2) (k : Nat) : ∀ j, (rounds u k j).bd
  | 0 => start_bd hu
  | j + 1 => swap_bd (step_bd (swap_bd (rounds_bd hu k j) _) hu) _
set_option maxRecDepth 100000 in
theorem out_lt (hu : u < p2) (k : Nat) : out u k < p2 := mul_lt (rounds_bd hu k 255).lx (raised_lt (rounds_bd hu k 255).lz)
end Ld

namespace Rd
def twX (x z : Nat) : Nat := rm (rm (ra x z) (ra x z)) (rm (rs x z) (rs x z))
def twE (x z : Nat) : Nat := rs (rm (ra x z) (ra x z)) (rm (rs x z) (rs x z))
def twZ (x z : Nat) : Nat := rm (twE x z) (ra (rm (ra x z) (ra x z)) (rm 121665 (twE x z)))
def suA (s : Ld) : Nat := rm (rs s.lx s.lz) (ra s.hx s.hz)
def suB (s : Ld) : Nat := rm (ra s.lx s.lz) (rs s.hx s.hz)
def suX (s : Ld) : Nat := rm (ra (suA s) (suB s)) (ra (suA s) (suB s))
def suZ (u : Nat) (s : Ld) : Nat := rm u (rm (rs (suA s) (suB s)) (rs (suA s) (suB s)))
def step (u : Nat) (c : Bool) (s : Ld) : Ld := if c then ⟨suX s, suZ u s, twX s.hx s.hz, twZ s.hx s.hz⟩ else ⟨twX s.lx s.lz, twZ s.lx s.lz, suX s, suZ u s⟩
def rounds (u k : Nat) : Nat → Ld
  | 0 => Ld.start u
  | j + 1 => step u (decide (bitN k (254 - j) = 1)) (rounds u k j)
def out (u k : Nat) : Nat := rm (rounds u k 255).lx (rInv (rounds u k 255).lz)
structure bd (s : Ld) : Prop where
  lx : s.lx < pP
  lz : s.lz < pP
  hx : s.hx < pP
  hz : s.hz < pP
set_option maxRecDepth 100000 in
theorem step_bd (u : Nat) (c : Bool) (s : Ld) : bd (step u c s) := by cases c; exact ⟨rm_lt _ _, rm_lt _ _, rm_lt _ _, rm_lt _ _⟩; exact ⟨rm_lt _ _, rm_lt _ _, rm_lt _ _, rm_lt _ _⟩
set_option maxRecDepth 100000 in
theorem rounds_bd {u : Nat} (hu : u < pP) (k : Nat) : ∀ j, bd (rounds u k j)
  | 0 => ⟨show 1 < pP by decide, show 0 < pP by decide, hu, show 1 < pP by decide⟩
  | _ + 1 => step_bd _ _ _
end Rd

/-- Modulo the prime. -/
structure FLd where
  lx : FP
  lz : FP
  hx : FP
  hz : FP
def Ld.mp (s : Ld) : FLd := ⟨fp s.lx, fp s.lz, fp s.hx, fp s.hz⟩
def fX (x z : FP) : FP := (x + z) * (x + z) * ((x - z) * (x - z))
def fE (x z : FP) : FP := (x + z) * (x + z) - (x - z) * (x - z)
def fZ (x z : FP) : FP := fE x z * ((x + z) * (x + z) + fp 121665 * fE x z)
def lfA (s : FLd) : FP := (s.lx - s.lz) * (s.hx + s.hz)
def lfB (s : FLd) : FP := (s.lx + s.lz) * (s.hx - s.hz)
def fstep (u : FP) (c : Bool) (s : FLd) : FLd :=
  if c then ⟨(lfA s + lfB s) * (lfA s + lfB s), u * ((lfA s - lfB s) * (lfA s - lfB s)), fX s.hx s.hz, fZ s.hx s.hz⟩
  else ⟨fX s.lx s.lz, fZ s.lx s.lz, (lfA s + lfB s) * (lfA s + lfB s), u * ((lfA s - lfB s) * (lfA s - lfB s))⟩
set_option maxRecDepth 100000 in
theorem FLd.ext' {s t : FLd} (h1 : s.lx = t.lx) (h2 : s.lz = t.lz) (h3 : s.hx = t.hx) (h4 : s.hz = t.hz) : s = t := by cases s; cases t; simp_all
set_option maxRecDepth 100000 in
theorem Rd.step_fp {s : Ld} (h : Rd.bd s) (u : Nat) (c : Bool) : (Rd.step u c s).mp = fstep (fp u) c s.mp := by
  have h1 := h.lz
  have h2 := h.hz
  have tx : ∀ x z, z < pP → fp (Rd.twX x z) = fX (fp x) (fp z) := fun x z hz => by unfold Rd.twX fX; rw [fprm, fprm, fprm, fpra, fprs hz]
  have te : ∀ x z, z < pP → fp (Rd.twE x z) = fE (fp x) (fp z) := fun x z hz => by unfold Rd.twE fE; rw [fprs (rm_lt _ _), fprm, fprm, fpra, fprs hz]
  have tz : ∀ x z, z < pP → fp (Rd.twZ x z) = fZ (fp x) (fp z) := fun x z hz => by unfold Rd.twZ fZ; rw [fprm, te x z hz, fpra, fprm, fprm, fpra, te x z hz]
  have ea : fp (Rd.suA s) = lfA s.mp := by unfold Rd.suA lfA; rw [fprm, fprs h1, fpra]; rfl
  have eb : fp (Rd.suB s) = lfB s.mp := by unfold Rd.suB lfB; rw [fprm, fprs h2, fpra]; rfl
  have lb : Rd.suB s < pP := rm_lt _ _
  have sx : fp (Rd.suX s) = (lfA s.mp + lfB s.mp) * (lfA s.mp + lfB s.mp) := by unfold Rd.suX; rw [fprm, fpra, ea, eb]
  have sz : fp (Rd.suZ u s) = fp u * ((lfA s.mp - lfB s.mp) * (lfA s.mp - lfB s.mp)) := by unfold Rd.suZ; rw [fprm, fprm, fprs lb, ea, eb]
  cases c
  · exact FLd.ext' (tx _ _ h1) (tz _ _ h1) sx sz
  · exact FLd.ext' sx sz (tx _ _ h2) (tz _ _ h2)
set_option maxRecDepth 100000 in
theorem Ld.step_fp {s : Ld} (h : s.bd) (u : Nat) (c : Bool) : (Ld.swap c (Ld.step u (Ld.swap c s))).mp = fstep (fp u) c s.mp := by
  have key : ∀ {t : Ld}, t.bd → fp (Ld.step u t).lx = fX (fp t.lx) (fp t.lz) ∧ fp (Ld.step u t).lz = fZ (fp t.lx) (fp t.lz) ∧ fp (Ld.step u t).hx = (lfA t.mp + lfB t.mp) * (lfA t.mp + lfB t.mp) ∧ fp (Ld.step u t).hz = fp u * ((lfA t.mp - lfB t.mp) * (lfA t.mp - lfB t.mp)) := by
    intro t h
    have e1 : fp t.p2' = (fp t.lx + fp t.lz) * (fp t.lx + fp t.lz) := by unfold Ld.p2' Ld.pl; rw [fpm, fpa]
    have e2 : fp t.m2 = (fp t.lx - fp t.lz) * (fp t.lx - fp t.lz) := by unfold Ld.m2 Ld.mi; rw [fpm, fps h.lx h.lz]
    have e3 : fp t.e = fE (fp t.lx) (fp t.lz) := by unfold Ld.e fE; rw [fps (Ld.p2_lt h) (Ld.m2_lt h), e1, e2]
    have e4 : fp t.a = (fp t.hx + fp t.hz) * (fp t.lx - fp t.lz) := by unfold Ld.a Ld.mi; rw [fpm, fpa, fps h.lx h.lz]
    have e5 : fp t.b = (fp t.hx - fp t.hz) * (fp t.lx + fp t.lz) := by unfold Ld.b Ld.pl; rw [fpm, fpa, fps h.hx h.hz]
    refine ⟨?_, ?_, ?_, ?_⟩
    · show fp (mulN t.p2' t.m2) = _
      rw [fpm, e1, e2]; rfl
    · show fp (mulN (addN t.p2' (mulN 121665 t.e)) t.e) = _
      rw [fpm, fpa, fpm, e1, e3]
      unfold fZ
      generalize fE (fp t.lx) (fp t.lz) = E
      generalize fp 121665 = c
      generalize fp t.lx = x
      generalize fp t.lz = z
      clear e1 e2 e3 e4 e5
      grind
    · show fp (mulN (addN t.a t.b) (addN t.a t.b)) = _
      rw [fpm, fpa, e4, e5]
      unfold lfA lfB Ld.mp
      generalize fp t.lx = x
      generalize fp t.lz = z
      generalize fp t.hx = v
      generalize fp t.hz = w
      clear e1 e2 e3 e4 e5
      grind
    · show fp (mulN (mulN (subN t.a t.b) (subN t.a t.b)) u) = _
      rw [fpm, fpm, fps (Ld.a_lt h) (Ld.b_lt h), e4, e5]
      unfold lfA lfB Ld.mp
      generalize fp t.lx = x
      generalize fp t.lz = z
      generalize fp t.hx = v
      generalize fp t.hz = w
      generalize fp u = U
      clear e1 e2 e3 e4 e5
      grind
  cases c
  · obtain ⟨k1, k2, k3, k4⟩ := key h
    exact FLd.ext' k1 k2 k3 k4
  · obtain ⟨k1, k2, k3, k4⟩ := key (Ld.swap_bd h true)
    refine FLd.ext' (k3.trans ?_) (k4.trans ?_) k1 k2
    · show (lfA ⟨fp s.hx, fp s.hz, fp s.lx, fp s.lz⟩ + lfB ⟨fp s.hx, fp s.hz, fp s.lx, fp s.lz⟩) * (lfA ⟨fp s.hx, fp s.hz, fp s.lx, fp s.lz⟩ + lfB ⟨fp s.hx, fp s.hz, fp s.lx, fp s.lz⟩) = (lfA s.mp + lfB s.mp) * (lfA s.mp + lfB s.mp)
      unfold lfA lfB Ld.mp
      grind
    · show fp u * ((lfA ⟨fp s.hx, fp s.hz, fp s.lx, fp s.lz⟩ - lfB ⟨fp s.hx, fp s.hz, fp s.lx, fp s.lz⟩) * (lfA ⟨fp s.hx, fp s.hz, fp s.lx, fp s.lz⟩ - lfB ⟨fp s.hx, fp s.hz, fp s.lx, fp s.lz⟩)) = fp u * ((lfA s.mp - lfB s.mp) * (lfA s.mp - lfB s.mp))
      unfold lfA lfB Ld.mp
      grind
def frounds (u : FP) (k : Nat) : Nat → FLd
  | 0 => ⟨1, 0, u, 1⟩
  | j + 1 => fstep u (decide (bitN k (254 - j) = 1)) (frounds u k j)
def fout (u : FP) (k : Nat) : FP := (frounds u k 255).lx * finv (frounds u k 255).lz
set_option maxRecDepth 100000 in
theorem Ld.rounds_fp {u : Nat} (hu : u < p2) (k : Nat) : ∀ j, (Ld.rounds u k j).mp = frounds (fp u) k j
  | 0 => rfl
  | j + 1 => by
    show (Ld.swap _ (Ld.step u (Ld.swap _ (Ld.rounds u k j)))).mp = fstep _ _ _
    rw [Ld.step_fp (Ld.rounds_bd hu k j), Ld.rounds_fp hu k j]
set_option maxRecDepth 100000 in
theorem Rd.rounds_fp {u : Nat} (hu : u < pP) (k : Nat) : ∀ j, (Rd.rounds u k j).mp = frounds (fp u) k j
  | 0 => rfl
  | j + 1 => by
    show (Rd.step u _ (Rd.rounds u k j)).mp = fstep _ _ _
    rw [Rd.step_fp (Rd.rounds_bd hu k j), Rd.rounds_fp hu k j]
set_option maxRecDepth 100000 in
theorem Ld.out_fp {u : Nat} (hu : u < p2) (k : Nat) : fp (Ld.out u k) = fout (fp u) k := by
  unfold Ld.out fout
  rw [fpm, fpi, ← Ld.rounds_fp hu k 255]
  rfl
set_option maxRecDepth 100000 in
theorem Rd.out_fp {u : Nat} (hu : u < pP) (k : Nat) : fp (Rd.out u k) = fout (fp u) k := by
  unfold Rd.out fout
  rw [fprm, fpri (Rd.rounds_bd hu k 255).lz, ← Rd.rounds_fp hu k 255]
  rfl
set_option maxRecDepth 100000 in
theorem out_val {u : Nat} (hu : u < p2) (k : Nat) : Ld.out u k % pP = (fout (fp u) k).val := by rw [← Ld.out_fp hu k]; rfl
set_option maxRecDepth 100000 in
theorem rout_val {u : Nat} (hu : u < pP) (k : Nat) : Rd.out u k = (fout (fp u) k).val := by
  rw [← Rd.out_fp hu k]
  exact (fp_lt (rm_lt _ _)).symm

set_option maxRecDepth 100000 in
/-- The ladder reckons a multiple of the point of u. -/
theorem lad_c : (fp 121665 + 1) * cv.D = -(fp 121665) := by
  apply Fin.ext
  show ((fp 121665 + 1) * fp dN : FP).val = (-(fp 121665) : FP).val
  decide +kernel
set_option maxRecDepth 100000 in
theorem lad_c1 : fp 121665 + 1 ≠ (0 : FP) := by
  intro h
  have := congrArg Fin.val h
  revert this
  decide +kernel
set_option maxRecDepth 100000 in
theorem lad_bit (n : Nat) {j : Nat} (hj : j < 255) : n / 2 ^ (254 - j) = 2 * (n / 2 ^ (255 - j)) + bitN n (254 - j) := by
  unfold bitN
  rw [show 255 - j = (254 - j) + 1 by omega, Nat.pow_succ, ← Nat.div_div_eq_div_mul]
  omega
set_option maxRecDepth 100000 in
theorem frounds_lad {u : FP} {P : Pt cv} (h0 : Lad u 1 P) (hu : u ≠ 0) {k : Nat} (hk : k < 2 ^ 255) : ∀ j, j ≤ 255 →
    Lad (frounds u k j).lx (frounds u k j).lz (Pt.mul (k / 2 ^ (255 - j)) P) ∧ Lad (frounds u k j).hx (frounds u k j).hz (Pt.mul (k / 2 ^ (255 - j) + 1) P)
  | 0, _ => by
    rw [Nat.sub_zero, Nat.div_eq_of_lt hk]
    refine ⟨Lad.zero, ?_⟩
    rw [show Pt.mul (0 + 1) P = P from Pt.zero_add P]
    exact h0
  | j + 1, hj => by
    obtain ⟨h1, h2⟩ := frounds_lad h0 hu hk j (by omega)
    have hs := Lad.sum h1 h2 h0 hu (Pt.mul_succ _ _) (a := lfA (frounds u k j)) (b := lfB (frounds u k j)) rfl rfl
    have ht1 := Lad.twice h1 lad_c lad_c1 rfl rfl rfl
    have ht2 := Lad.twice h2 lad_c lad_c1 rfl rfl rfl
    have hb := bitN_lt k (254 - j)
    rw [← Pt.mul_add] at hs ht1 ht2
    rw [show 255 - (j + 1) = 254 - j by omega, lad_bit k (by omega)]
    generalize k / 2 ^ (255 - j) = n at *
    show Lad (fstep u (decide (bitN k (254 - j) = 1)) (frounds u k j)).lx (fstep u (decide (bitN k (254 - j) = 1)) (frounds u k j)).lz _ ∧ Lad (fstep u (decide (bitN k (254 - j) = 1)) (frounds u k j)).hx (fstep u (decide (bitN k (254 - j) = 1)) (frounds u k j)).hz _
    obtain hb0 | hb1 : bitN k (254 - j) = 0 ∨ bitN k (254 - j) = 1 := by omega
    · rw [hb0, show 2 * n + 0 = n + n by omega, show n + n + 1 = n + (n + 1) by omega]
      exact ⟨ht1, hs⟩
    · rw [hb1, show 2 * n + 1 = n + (n + 1) by omega, show n + (n + 1) + 1 = n + 1 + (n + 1) by omega]
      exact ⟨hs, ht2⟩
set_option maxRecDepth 100000 in
theorem finv0 : cv.inv 0 = 0 := by
  have h := fpi 0
  rw [show fp 0 = 0 from rfl] at h
  rw [cvinv]
  rw [← h]
  apply Fin.ext
  show invN 0 % pP = 0
  rw [inv_mod, Nat.zero_mod, rInv_nought]
set_option maxRecDepth 100000 in
theorem fout_u {u : FP} {P : Pt cv} (h0 : Lad u 1 P) (hu : u ≠ 0) {k : Nat} (hk : k < 2 ^ 255) : fout u k = uOf (Pt.mul k P) := by
  have h := (frounds_lad h0 hu hk 255 (by omega)).1
  rw [Nat.sub_self, Nat.pow_zero, Nat.div_one] at h
  unfold fout
  generalize (frounds u k 255).lx = X at *
  generalize (frounds u k 255).lz = Z at *
  exact Lad.u finv0 h
end Go.Proofs.Ytceljjnohjnepaa
