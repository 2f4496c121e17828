/- The curve's laws: numbers read, points that may be none. -/
import Derived.Test.YtceljjnohjnepaaM17
namespace Go.Proofs.Ytceljjnohjnepaa
open Go Go.RowKit DG EG
attribute [local go_sem ↓] exl_Elem exs_Elem exl_Pt exs_Pt exb_Pt exl_Sc exs_Sc
                       attribute [local go_sem] ldr_Pt str_Pt to_quad0 pt_zero bld_pt bld_pt0 ldr_Sc str_Sc

def oN (s : ByteArray) : Nat := if s.size = 32 ∨ s.size = 64 then bytesNat s.data.toList % ordL else 0
set_option maxRecDepth 100000 in
theorem ordL_p2 : ordL < p2 := by decide +kernel
set_option maxRecDepth 100000 in
theorem oN_lt (s : ByteArray) : oN s < ordL := by
  unfold oN
  split
  · exact Nat.mod_lt _ (by decide)
  · decide
set_option maxRecDepth 100000 in
theorem oN_p2 (s : ByteArray) : oN s < p2 := Nat.lt_trans (oN_lt s) ordL_p2
def oC (s : ByteArray) : Int := if s.size = 32 ∨ s.size = 64 then 0 else 2
set_option maxRecDepth 100000 in
theorem sof_v (s : ByteArray) (W : World) (hmax : s.size ≤ 9223372036854775807) : Calls Try.prog 30 #[.string s] W fun e w' => e = .returned (.tuple #[.agg (quad (oN s)), .int .i64 (oC s)]) ∧ Below W.heap.size W w' := by
  unfold oN oC
  by_cases h1 : s.size = 32
  · rw [if_pos (.inl h1), if_pos (.inl h1)]; exact oOf_32 s W h1
  · by_cases h2 : s.size = 64
    · rw [if_pos (.inr h2), if_pos (.inr h2)]; exact Of_64 s W h2
    · rw [if_neg (by omega), if_neg (by omega)]; exact oOf_no s W h1 h2 hmax
set_option maxRecDepth 100000 in
theorem oC_of {s : ByteArray} (h : (oC s != 0) = false) : s.size = 32 ∨ s.size = 64 := by
  unfold oC at h
  by_cases hs : s.size = 32 ∨ s.size = 64
  · exact hs
  · rw [if_neg hs] at h; exact absurd h (by decide)
set_option maxRecDepth 100000 in
/-- What comes of bytes that are read as a point. -/
theorem decV_form (s : ByteArray) : ∃ (x y z t : Nat) (i : Bool) (c : Int), decV s = .tuple #[.agg (pt x y z t i), .int .i64 c] ∧ ((c != 0) = false ↔ dOk s = true) := by
  unfold decV
  by_cases h : dOk s = true
  · rw [if_pos h]
    exact ⟨_, _, _, _, true, 0, rfl, by simp [h]⟩
  · rw [if_neg h]
    refine ⟨_, _, _, _, false, _, rfl, ?_⟩
    simp only [h]
    split <;> decide

set_option maxRecDepth 100000 in
set_option maxHeartbeats 2000000 in
theorem enone_any (s : ByteArray) (W : World) (hmax : s.size ≤ 9223372036854775807) : Calls Try.prog 9 #[.string s] W fun e w' => e = .returned (.bool true) ∧ Below W.heap.size W w' := by
  have O1 := fun w => sof_v s w hmax
  obtain ⟨c, hc⟩ : ∃ c, oC s = c := ⟨_, rfl⟩
  rw [hc] at O1
  have HO := hid O1
  clear O1 hc hmax
  generalize oN s = n at *
  have L1 := hid (fun w => alive_any w)
  have B1 := hid (fun w => pbase_any w)
  generalize dP bsB = b at *
  have Y1 := hid (fun w => pbytes_no 0 0 0 0 w)
  have A1 := hid (fun w => padd_no b.x b.y b.z b.t 0 0 0 0 true false w rfl)
  have A2 := hid (fun w => padd_no 0 0 0 0 b.x b.y b.z b.t false true w rfl)
  have T1 := hid (fun w => ptwice_no 0 0 0 0 w)
  have M1 := hid (fun w => pboth_no 0 0 0 0 n n w)
  have S1 := hid (fun w => psame_no 0 0 0 0 0 0 0 0 false false w rfl)
  have S2 := hid (fun w => psame_no b.x b.y b.z b.t 0 0 0 0 true false w rfl)
  have S3 := hid (fun w => psame_no 0 0 0 0 b.x b.y b.z b.t false true w rfl)
  go_enter Try.func9, Try.ntmps9
  go_wp2_with fail
  refine (HO.out _).mono ?_
  rintro e w1 ⟨rfl, hb1⟩
  have b1 := hid hb1
  clear hb1
  go_upto_region 2 with (fail)
  skip
  obtain ⟨N, hN⟩ : ∃ b, w1.heap.size = b := ⟨_, rfl⟩
  have wN : W.heap.size ≤ N := by rw [← hN]; exact b1.out.size
  obtain ⟨w2, hw2⟩ : ∃ w2, w1.alloc (.cells (quad n) 59) = w2 := ⟨_, rfl⟩
  have kN := kept (show hget w2 (w1.heap.size) = some (.cells (quad n) 59) by rw [← hw2]; clear hw2; go_simp)
  have b2 : Hid (Below W.heap.size W w2) := by rw [← hw2]; repeat (first | exact Below.refl _ _ | exact below_new _ | exact b1.out | assumption | refine Below.drew ?_ | refine Below.drewN ?_ _ | refine below_alloc ?_ _ | refine below_blk' ?_ (by omega) _)
  rw [hw2]
  clear hw2
  try clear gN lN nN mN
  try clear jN
  have jN := kN.later
  obtain ⟨gN, lN, nN, mN⟩ := kN
  clear b1
  rw [hN] at *
  clear hN
  obtain ⟨t, ht⟩ : ∃ t, (c != 0) = t := ⟨_, rfl⟩
  cases t
  · go_upto_region 5 with (fail)
    obtain ⟨A, hA⟩ : ∃ b, w2.heap.size = b := ⟨_, rfl⟩
    have wA : W.heap.size ≤ A := by rw [← hA]; exact b2.out.size
    have eNA : (N = A) = False := by rw [← hA]; exact nN
    have eAN : (A = N) = False := by rw [← hA]; exact mN
    obtain ⟨w3, hw3⟩ : ∃ w3, w2.alloc (.cells (pt 0 0 0 0 false) 42) = w3 := ⟨_, rfl⟩
    have kN := kept (show hget w3 (N) = some (.cells (quad n) 59 (0, 0)) by rw [← hw3]; clear hw3; go_simp)
    have kA := kept (show hget w3 (w2.heap.size) = some (.cells (pt 0 0 0 0 false) 42) by rw [← hw3]; clear hw3; go_simp)
    have b3 : Hid (Below W.heap.size W w3) := by rw [← hw3]; repeat (first | exact Below.refl _ _ | exact below_new _ | exact b2.out | assumption | refine Below.drew ?_ | refine Below.drewN ?_ _ | refine below_alloc ?_ _ | refine below_blk' ?_ (by omega) _)
    rw [hw3]
    clear hw3
    try clear gN lN nN mN
    try clear jN
    have jN := kN.later
    obtain ⟨gN, lN, nN, mN⟩ := kN
    try clear gA lA nA mA
    try clear jA
    have jA := kA.later
    obtain ⟨gA, lA, nA, mA⟩ := kA
    clear b2
    rw [hA] at *
    clear hA
    go_wp2_with fail
    try clear jN jA
    refine (B1.out _).mono ?_
    rintro e w4 ⟨rfl, hb4⟩
    have kN := Kept.on (kept (b := N) (o := .cells (quad n) 59 (0, 0)) (by go_simp)) hb4
    have kA := Kept.on (kept (b := A) (o := .cells (pt 0 0 0 0 false) 42 (0, 0)) (by go_simp)) hb4
    have b4 : Hid (Below W.heap.size W w4) := below_to (by repeat (first | exact Below.refl _ _ | exact below_new _ | exact b3.out | assumption | refine Below.drew ?_ | refine Below.drewN ?_ _ | refine below_alloc ?_ _ | refine below_blk' ?_ (by omega) _)) hb4
    clear hb4
    try clear gN lN nN mN
    obtain ⟨gN, lN, nN, mN⟩ := kN
    try clear gA lA nA mA
    obtain ⟨gA, lA, nA, mA⟩ := kA
    clear b3
    go_upto_region 6 with (fail)
    obtain ⟨B, hB⟩ : ∃ b, w4.heap.size = b := ⟨_, rfl⟩
    have wB : W.heap.size ≤ B := by rw [← hB]; exact b4.out.size
    have eNB : (N = B) = False := by rw [← hB]; exact nN
    have eBN : (B = N) = False := by rw [← hB]; exact mN
    have eAB : (A = B) = False := by rw [← hB]; exact nA
    have eBA : (B = A) = False := by rw [← hB]; exact mA
    obtain ⟨w5, hw5⟩ : ∃ w5, w4.alloc (.cells (pt b.x b.y b.z b.t true) 42) = w5 := ⟨_, rfl⟩
    have kN := kept (show hget w5 (N) = some (.cells (quad n) 59 (0, 0)) by rw [← hw5]; clear hw5; go_simp)
    have kA := kept (show hget w5 (A) = some (.cells (pt 0 0 0 0 false) 42 (0, 0)) by rw [← hw5]; clear hw5; go_simp)
    have kB := kept (show hget w5 (w4.heap.size) = some (.cells (pt b.x b.y b.z b.t true) 42) by rw [← hw5]; clear hw5; go_simp)
    have b5 : Hid (Below W.heap.size W w5) := by rw [← hw5]; repeat (first | exact Below.refl _ _ | exact below_new _ | exact b4.out | assumption | refine Below.drew ?_ | refine Below.drewN ?_ _ | refine below_alloc ?_ _ | refine below_blk' ?_ (by omega) _)
    rw [hw5]
    clear hw5
    try clear gN lN nN mN
    try clear jN
    have jN := kN.later
    obtain ⟨gN, lN, nN, mN⟩ := kN
    try clear gA lA nA mA
    try clear jA
    have jA := kA.later
    obtain ⟨gA, lA, nA, mA⟩ := kA
    try clear gB lB nB mB
    try clear jB
    have jB := kB.later
    obtain ⟨gB, lB, nB, mB⟩ := kB
    clear b4
    rw [hB] at *
    clear hB
    go_wp2_with fail
    try clear jN jA jB
    refine (Y1.out _).mono ?_
    rintro e w6 ⟨rfl, hb6⟩
    have kN := Kept.on (kept (b := N) (o := .cells (quad n) 59 (0, 0)) (by go_simp)) hb6
    have kA := Kept.on (kept (b := A) (o := .cells (pt 0 0 0 0 false) 42 (0, 0)) (by go_simp)) hb6
    have kB := Kept.on (kept (b := B) (o := .cells (pt b.x b.y b.z b.t true) 42 (0, 0)) (by go_simp)) hb6
    have b6 : Hid (Below W.heap.size W w6) := below_to (by repeat (first | exact Below.refl _ _ | exact below_new _ | exact b5.out | assumption | refine Below.drew ?_ | refine Below.drewN ?_ _ | refine below_alloc ?_ _ | refine below_blk' ?_ (by omega) _)) hb6
    clear hb6
    try clear gN lN nN mN
    obtain ⟨gN, lN, nN, mN⟩ := kN
    try clear gA lA nA mA
    obtain ⟨gA, lA, nA, mA⟩ := kA
    try clear gB lB nB mB
    obtain ⟨gB, lB, nB, mB⟩ := kB
    clear b5
    go_wp2_with fail
    try clear jN jA jB
    refine (A1.out _).mono ?_
    rintro e w7 ⟨rfl, hb7⟩
    have kN := Kept.on (kept (b := N) (o := .cells (quad n) 59 (0, 0)) (by go_simp)) hb7
    have kA := Kept.on (kept (b := A) (o := .cells (pt 0 0 0 0 false) 42 (0, 0)) (by go_simp)) hb7
    have kB := Kept.on (kept (b := B) (o := .cells (pt b.x b.y b.z b.t true) 42 (0, 0)) (by go_simp)) hb7
    have b7 : Hid (Below W.heap.size W w7) := below_to (by repeat (first | exact Below.refl _ _ | exact below_new _ | exact b6.out | assumption | refine Below.drew ?_ | refine Below.drewN ?_ _ | refine below_alloc ?_ _ | refine below_blk' ?_ (by omega) _)) hb7
    clear hb7
    try clear gN lN nN mN
    obtain ⟨gN, lN, nN, mN⟩ := kN
    try clear gA lA nA mA
    obtain ⟨gA, lA, nA, mA⟩ := kA
    try clear gB lB nB mB
    obtain ⟨gB, lB, nB, mB⟩ := kB
    clear b6
    go_wp2_with fail
    try clear jN jA jB
    refine (Y1.out _).mono ?_
    rintro e w8 ⟨rfl, hb8⟩
    have kN := Kept.on (kept (b := N) (o := .cells (quad n) 59 (0, 0)) (by go_simp)) hb8
    have kA := Kept.on (kept (b := A) (o := .cells (pt 0 0 0 0 false) 42 (0, 0)) (by go_simp)) hb8
    have kB := Kept.on (kept (b := B) (o := .cells (pt b.x b.y b.z b.t true) 42 (0, 0)) (by go_simp)) hb8
    have b8 : Hid (Below W.heap.size W w8) := below_to (by repeat (first | exact Below.refl _ _ | exact below_new _ | exact b7.out | assumption | refine Below.drew ?_ | refine Below.drewN ?_ _ | refine below_alloc ?_ _ | refine below_blk' ?_ (by omega) _)) hb8
    clear hb8
    try clear gN lN nN mN
    obtain ⟨gN, lN, nN, mN⟩ := kN
    try clear gA lA nA mA
    obtain ⟨gA, lA, nA, mA⟩ := kA
    try clear gB lB nB mB
    obtain ⟨gB, lB, nB, mB⟩ := kB
    clear b7
    go_wp2_with fail
    try clear jN jA jB
    refine (A2.out _).mono ?_
    rintro e w9 ⟨rfl, hb9⟩
    have kN := Kept.on (kept (b := N) (o := .cells (quad n) 59 (0, 0)) (by go_simp)) hb9
    have kA := Kept.on (kept (b := A) (o := .cells (pt 0 0 0 0 false) 42 (0, 0)) (by go_simp)) hb9
    have kB := Kept.on (kept (b := B) (o := .cells (pt b.x b.y b.z b.t true) 42 (0, 0)) (by go_simp)) hb9
    have b9 : Hid (Below W.heap.size W w9) := below_to (by repeat (first | exact Below.refl _ _ | exact below_new _ | exact b8.out | assumption | refine Below.drew ?_ | refine Below.drewN ?_ _ | refine below_alloc ?_ _ | refine below_blk' ?_ (by omega) _)) hb9
    clear hb9
    try clear gN lN nN mN
    obtain ⟨gN, lN, nN, mN⟩ := kN
    try clear gA lA nA mA
    obtain ⟨gA, lA, nA, mA⟩ := kA
    try clear gB lB nB mB
    obtain ⟨gB, lB, nB, mB⟩ := kB
    clear b8
    go_wp2_with fail
    try clear jN jA jB
    refine (Y1.out _).mono ?_
    rintro e w10 ⟨rfl, hb10⟩
    have kN := Kept.on (kept (b := N) (o := .cells (quad n) 59 (0, 0)) (by go_simp)) hb10
    have kA := Kept.on (kept (b := A) (o := .cells (pt 0 0 0 0 false) 42 (0, 0)) (by go_simp)) hb10
    have kB := Kept.on (kept (b := B) (o := .cells (pt b.x b.y b.z b.t true) 42 (0, 0)) (by go_simp)) hb10
    have b10 : Hid (Below W.heap.size W w10) := below_to (by repeat (first | exact Below.refl _ _ | exact below_new _ | exact b9.out | assumption | refine Below.drew ?_ | refine Below.drewN ?_ _ | refine below_alloc ?_ _ | refine below_blk' ?_ (by omega) _)) hb10
    clear hb10
    try clear gN lN nN mN
    obtain ⟨gN, lN, nN, mN⟩ := kN
    try clear gA lA nA mA
    obtain ⟨gA, lA, nA, mA⟩ := kA
    try clear gB lB nB mB
    obtain ⟨gB, lB, nB, mB⟩ := kB
    clear b9
    go_wp2_with fail
    try clear jN jA jB
    refine (T1.out _).mono ?_
    rintro e w11 ⟨rfl, hb11⟩
    have kN := Kept.on (kept (b := N) (o := .cells (quad n) 59 (0, 0)) (by go_simp)) hb11
    have kA := Kept.on (kept (b := A) (o := .cells (pt 0 0 0 0 false) 42 (0, 0)) (by go_simp)) hb11
    have kB := Kept.on (kept (b := B) (o := .cells (pt b.x b.y b.z b.t true) 42 (0, 0)) (by go_simp)) hb11
    have b11 : Hid (Below W.heap.size W w11) := below_to (by repeat (first | exact Below.refl _ _ | exact below_new _ | exact b10.out | assumption | refine Below.drew ?_ | refine Below.drewN ?_ _ | refine below_alloc ?_ _ | refine below_blk' ?_ (by omega) _)) hb11
    clear hb11
    try clear gN lN nN mN
    obtain ⟨gN, lN, nN, mN⟩ := kN
    try clear gA lA nA mA
    obtain ⟨gA, lA, nA, mA⟩ := kA
    try clear gB lB nB mB
    obtain ⟨gB, lB, nB, mB⟩ := kB
    clear b10
    go_wp2_with fail
    try clear jN jA jB
    refine (Y1.out _).mono ?_
    rintro e w12 ⟨rfl, hb12⟩
    have kN := Kept.on (kept (b := N) (o := .cells (quad n) 59 (0, 0)) (by go_simp)) hb12
    have kA := Kept.on (kept (b := A) (o := .cells (pt 0 0 0 0 false) 42 (0, 0)) (by go_simp)) hb12
    have kB := Kept.on (kept (b := B) (o := .cells (pt b.x b.y b.z b.t true) 42 (0, 0)) (by go_simp)) hb12
    have b12 : Hid (Below W.heap.size W w12) := below_to (by repeat (first | exact Below.refl _ _ | exact below_new _ | exact b11.out | assumption | refine Below.drew ?_ | refine Below.drewN ?_ _ | refine below_alloc ?_ _ | refine below_blk' ?_ (by omega) _)) hb12
    clear hb12
    try clear gN lN nN mN
    obtain ⟨gN, lN, nN, mN⟩ := kN
    try clear gA lA nA mA
    obtain ⟨gA, lA, nA, mA⟩ := kA
    try clear gB lB nB mB
    obtain ⟨gB, lB, nB, mB⟩ := kB
    clear b11
    go_wp2_with fail
    try clear jN jA jB
    refine (M1.out _).mono ?_
    rintro e w13 ⟨rfl, hb13⟩
    have kN := Kept.on (kept (b := N) (o := .cells (quad n) 59 (0, 0)) (by go_simp)) hb13
    have kA := Kept.on (kept (b := A) (o := .cells (pt 0 0 0 0 false) 42 (0, 0)) (by go_simp)) hb13
    have kB := Kept.on (kept (b := B) (o := .cells (pt b.x b.y b.z b.t true) 42 (0, 0)) (by go_simp)) hb13
    have b13 : Hid (Below W.heap.size W w13) := below_to (by repeat (first | exact Below.refl _ _ | exact below_new _ | exact b12.out | assumption | refine Below.drew ?_ | refine Below.drewN ?_ _ | refine below_alloc ?_ _ | refine below_blk' ?_ (by omega) _)) hb13
    clear hb13
    try clear gN lN nN mN
    obtain ⟨gN, lN, nN, mN⟩ := kN
    try clear gA lA nA mA
    obtain ⟨gA, lA, nA, mA⟩ := kA
    try clear gB lB nB mB
    obtain ⟨gB, lB, nB, mB⟩ := kB
    clear b12
    go_wp2_with fail
    try clear jN jA jB
    refine (Y1.out _).mono ?_
    rintro e w14 ⟨rfl, hb14⟩
    have kN := Kept.on (kept (b := N) (o := .cells (quad n) 59 (0, 0)) (by go_simp)) hb14
    have kA := Kept.on (kept (b := A) (o := .cells (pt 0 0 0 0 false) 42 (0, 0)) (by go_simp)) hb14
    have kB := Kept.on (kept (b := B) (o := .cells (pt b.x b.y b.z b.t true) 42 (0, 0)) (by go_simp)) hb14
    have b14 : Hid (Below W.heap.size W w14) := below_to (by repeat (first | exact Below.refl _ _ | exact below_new _ | exact b13.out | assumption | refine Below.drew ?_ | refine Below.drewN ?_ _ | refine below_alloc ?_ _ | refine below_blk' ?_ (by omega) _)) hb14
    clear hb14
    try clear gN lN nN mN
    obtain ⟨gN, lN, nN, mN⟩ := kN
    try clear gA lA nA mA
    obtain ⟨gA, lA, nA, mA⟩ := kA
    try clear gB lB nB mB
    obtain ⟨gB, lB, nB, mB⟩ := kB
    clear b13
    go_wp2_with fail
    try clear jN jA jB
    refine (S1.out _).mono ?_
    rintro e w15 ⟨rfl, hb15⟩
    have kN := Kept.on (kept (b := N) (o := .cells (quad n) 59 (0, 0)) (by go_simp)) hb15
    have kA := Kept.on (kept (b := A) (o := .cells (pt 0 0 0 0 false) 42 (0, 0)) (by go_simp)) hb15
    have kB := Kept.on (kept (b := B) (o := .cells (pt b.x b.y b.z b.t true) 42 (0, 0)) (by go_simp)) hb15
    have b15 : Hid (Below W.heap.size W w15) := below_to (by repeat (first | exact Below.refl _ _ | exact below_new _ | exact b14.out | assumption | refine Below.drew ?_ | refine Below.drewN ?_ _ | refine below_alloc ?_ _ | refine below_blk' ?_ (by omega) _)) hb15
    clear hb15
    try clear gN lN nN mN
    obtain ⟨gN, lN, nN, mN⟩ := kN
    try clear gA lA nA mA
    obtain ⟨gA, lA, nA, mA⟩ := kA
    try clear gB lB nB mB
    obtain ⟨gB, lB, nB, mB⟩ := kB
    clear b14
    go_wp2_with fail
    try clear jN jA jB
    refine (S2.out _).mono ?_
    rintro e w16 ⟨rfl, hb16⟩
    have kN := Kept.on (kept (b := N) (o := .cells (quad n) 59 (0, 0)) (by go_simp)) hb16
    have kA := Kept.on (kept (b := A) (o := .cells (pt 0 0 0 0 false) 42 (0, 0)) (by go_simp)) hb16
    have kB := Kept.on (kept (b := B) (o := .cells (pt b.x b.y b.z b.t true) 42 (0, 0)) (by go_simp)) hb16
    have b16 : Hid (Below W.heap.size W w16) := below_to (by repeat (first | exact Below.refl _ _ | exact below_new _ | exact b15.out | assumption | refine Below.drew ?_ | refine Below.drewN ?_ _ | refine below_alloc ?_ _ | refine below_blk' ?_ (by omega) _)) hb16
    clear hb16
    try clear gN lN nN mN
    obtain ⟨gN, lN, nN, mN⟩ := kN
    try clear gA lA nA mA
    obtain ⟨gA, lA, nA, mA⟩ := kA
    try clear gB lB nB mB
    obtain ⟨gB, lB, nB, mB⟩ := kB
    clear b15
    go_wp2_with fail
    try clear jN jA jB
    refine (S3.out _).mono ?_
    rintro e w17 ⟨rfl, hb17⟩
    have kN := Kept.on (kept (b := N) (o := .cells (quad n) 59 (0, 0)) (by go_simp)) hb17
    have kA := Kept.on (kept (b := A) (o := .cells (pt 0 0 0 0 false) 42 (0, 0)) (by go_simp)) hb17
    have kB := Kept.on (kept (b := B) (o := .cells (pt b.x b.y b.z b.t true) 42 (0, 0)) (by go_simp)) hb17
    have b17 : Hid (Below W.heap.size W w17) := below_to (by repeat (first | exact Below.refl _ _ | exact below_new _ | exact b16.out | assumption | refine Below.drew ?_ | refine Below.drewN ?_ _ | refine below_alloc ?_ _ | refine below_blk' ?_ (by omega) _)) hb17
    clear hb17
    try clear gN lN nN mN
    obtain ⟨gN, lN, nN, mN⟩ := kN
    try clear gA lA nA mA
    obtain ⟨gA, lA, nA, mA⟩ := kA
    try clear gB lB nB mB
    obtain ⟨gB, lB, nB, mB⟩ := kB
    clear b16
    go_wp2_with fail
    try clear jN jA jB
    refine (L1.out _).mono ?_
    rintro e w18 ⟨rfl, hb18⟩
    have kN := Kept.on (kept (b := N) (o := .cells (quad n) 59 (0, 0)) (by go_simp)) hb18
    have kA := Kept.on (kept (b := A) (o := .cells (pt 0 0 0 0 false) 42 (0, 0)) (by go_simp)) hb18
    have kB := Kept.on (kept (b := B) (o := .cells (pt b.x b.y b.z b.t true) 42 (0, 0)) (by go_simp)) hb18
    have b18 : Hid (Below W.heap.size W w18) := below_to (by repeat (first | exact Below.refl _ _ | exact below_new _ | exact b17.out | assumption | refine Below.drew ?_ | refine Below.drewN ?_ _ | refine below_alloc ?_ _ | refine below_blk' ?_ (by omega) _)) hb18
    clear hb18
    try clear gN lN nN mN
    obtain ⟨gN, lN, nN, mN⟩ := kN
    try clear gA lA nA mA
    obtain ⟨gA, lA, nA, mA⟩ := kA
    try clear gB lB nB mB
    obtain ⟨gB, lB, nB, mB⟩ := kB
    clear b17
    go_wp2_with fail
    go_ret
    exact ⟨rfl, b18.out⟩
  · go_wp2_with fail
    refine (L1.out _).mono ?_
    rintro e w3 ⟨rfl, hb3⟩
    have b3 := hid (below_to b2.out hb3)
    go_wp2_with fail
    go_ret
    exact ⟨rfl, b3.out⟩

end Go.Proofs.Ytceljjnohjnepaa
