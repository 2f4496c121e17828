/- The law EdwReads: for every input it returns true and leaves its argument as it was. -/
import Derived.Test.YtceljjnohjnepaaM17
import Derived.Test.YtceljjnohjnepaaM01
namespace Go.Proofs.Ytceljjnohjnepaa
open Go Go.RowKit DG EG
attribute [local go_sem ↓] exl_Elem exs_Elem exl_Pt exs_Pt exb_Pt exl_RPt exs_RPt exb_RPt
                       attribute [local go_sem] ldr_Pt str_Pt to_quad0 pt_zero bld_pt bld_pt0 ldr_RPt str_RPt to_nine0 rpt_zero bld_rpt bld_rpt0

set_option maxRecDepth 100000 in
set_option maxHeartbeats 1000000 in
theorem ereads_far (s : ByteArray) (W : World) (h : 4096 < s.size) : Calls Try.prog 6 #[.string s] W fun e w' => e = .returned (.bool true) ∧ Below W.heap.size W w' := by
  have hd2 : decide (4096 < (s.size : Int)) = true := decide_eq_true (by omega)
  go_enter Try.func6, Try.ntmps6
  go_wp2_with fail
  refine (alive_any _).mono ?_
  rintro e w1 ⟨rfl, hb1⟩
  go_wp2_with fail
  go_ret
  exact ⟨rfl, hb1⟩

set_option maxRecDepth 100000 in
set_option maxHeartbeats 2000000 in
theorem ereads_bad (s : ByteArray) (c : Int) (W : World) (h : s.size ≤ 4096) (hc : c = 90 ∨ c = 2) (h1 : decV s = .tuple #[noPt, .int .i64 c]) (h2 : rdecV s = .tuple #[.agg (rpt 0 0 0), .int .i64 c]) : Calls Try.prog 6 #[.string s] W fun e w' => e = .returned (.bool true) ∧ Below W.heap.size W w' := by
  have hd2 : decide (4096 < (s.size : Int)) = false := decide_eq_false (by omega)
  have D1 := hid (fun w => h1 ▸ pdecode_v s w (by omega))
  have D2 := hid (fun w => h2 ▸ rdecode_v s w (by omega))
  have G1 := hid (fun w => given_any w)
  have G2 := hid (fun w => d_ref w)
  have Y1 := hid (fun w => pbytes_no 0 0 0 0 w)
  have S1 := hid (fun w => psame_no 0 0 0 0 0 0 0 0 false false w rfl)
  have E1 := eqlN dN dN dN_pP dN_pP
  have L1 := hid (fun w => alive_any w)
  have c1 : (c != c) = false := by simp
  have c2 : (c != 0) = true := by rcases hc with rfl | rfl <;> decide
  have dd : decide (dN = dN) = true := decide_eq_true rfl
  rw [dd] at E1
  clear h1 h2 hc dd
  generalize dN = d at *
  go_enter Try.func6, Try.ntmps6
  go_wp2_with fail
  refine (D1.out _).mono ?_
  rintro e w1 ⟨rfl, hb1⟩
  have b1 := hid hb1
  clear hb1
  go_upto_region 4 with (fail)
  skip
  obtain ⟨A, hA⟩ : ∃ b, w1.heap.size = b := ⟨_, rfl⟩
  have wA : W.heap.size ≤ A := by rw [← hA]; exact b1.out.size
  obtain ⟨w2, hw2⟩ : ∃ w2, w1.alloc (.cells (pt 0 0 0 0 false) 42) = w2 := ⟨_, rfl⟩
  have kA := kept (show hget w2 (w1.heap.size) = some (.cells (pt 0 0 0 0 false) 42) by rw [← hw2]; clear hw2; go_simp)
  have b2 : Hid (Below W.heap.size W w2) := by rw [← hw2]; repeat (first | exact Below.refl _ _ | exact below_new _ | exact b1.out | assumption | refine Below.drew ?_ | refine Below.drewN ?_ _ | refine below_alloc ?_ _ | refine below_blk' ?_ (by omega) _)
  rw [hw2]
  clear hw2
  try clear gA lA nA mA
  try clear jA
  have jA := kA.later
  obtain ⟨gA, lA, nA, mA⟩ := kA
  clear b1
  rw [hA] at *
  clear hA
  go_wp2_with fail
  try clear jA
  refine (D2.out _).mono ?_
  rintro e w3 ⟨rfl, hb3⟩
  have kA := Kept.on (kept (b := A) (o := .cells (pt 0 0 0 0 false) 42 (0, 0)) (by go_simp)) hb3
  have b3 : Hid (Below W.heap.size W w3) := below_to (by repeat (first | exact Below.refl _ _ | exact below_new _ | exact b2.out | assumption | refine Below.drew ?_ | refine Below.drewN ?_ _ | refine below_alloc ?_ _ | refine below_blk' ?_ (by omega) _)) hb3
  clear hb3
  try clear gA lA nA mA
  obtain ⟨gA, lA, nA, mA⟩ := kA
  clear b2
  go_upto_region 5 with (fail)
  obtain ⟨B, hB⟩ : ∃ b, w3.heap.size = b := ⟨_, rfl⟩
  have wB : W.heap.size ≤ B := by rw [← hB]; exact b3.out.size
  have eAB : (A = B) = False := by rw [← hB]; exact nA
  have eBA : (B = A) = False := by rw [← hB]; exact mA
  obtain ⟨w4, hw4⟩ : ∃ w4, w3.alloc (.cells (rpt 0 0 0) 46) = w4 := ⟨_, rfl⟩
  have kA := kept (show hget w4 (A) = some (.cells (pt 0 0 0 0 false) 42 (0, 0)) by rw [← hw4]; clear hw4; go_simp)
  have kB := kept (show hget w4 (w3.heap.size) = some (.cells (rpt 0 0 0) 46) by rw [← hw4]; clear hw4; go_simp)
  have b4 : Hid (Below W.heap.size W w4) := by rw [← hw4]; repeat (first | exact Below.refl _ _ | exact below_new _ | exact b3.out | assumption | refine Below.drew ?_ | refine Below.drewN ?_ _ | refine below_alloc ?_ _ | refine below_blk' ?_ (by omega) _)
  rw [hw4]
  clear hw4
  try clear gA lA nA mA
  try clear jA
  have jA := kA.later
  obtain ⟨gA, lA, nA, mA⟩ := kA
  try clear gB lB nB mB
  try clear jB
  have jB := kB.later
  obtain ⟨gB, lB, nB, mB⟩ := kB
  clear b3
  rw [hB] at *
  clear hB
  go_wp2_with fail
  try clear jA jB
  refine (G1.out _).mono ?_
  rintro e w5 ⟨rfl, hb5⟩
  have kA := Kept.on (kept (b := A) (o := .cells (pt 0 0 0 0 false) 42 (0, 0)) (by go_simp)) hb5
  have kB := Kept.on (kept (b := B) (o := .cells (rpt 0 0 0) 46 (0, 0)) (by go_simp)) hb5
  have b5 : Hid (Below W.heap.size W w5) := below_to (by repeat (first | exact Below.refl _ _ | exact below_new _ | exact b4.out | assumption | refine Below.drew ?_ | refine Below.drewN ?_ _ | refine below_alloc ?_ _ | refine below_blk' ?_ (by omega) _)) hb5
  clear hb5
  try clear gA lA nA mA
  obtain ⟨gA, lA, nA, mA⟩ := kA
  try clear gB lB nB mB
  obtain ⟨gB, lB, nB, mB⟩ := kB
  clear b4
  go_wp2_with fail
  try clear jA jB
  refine (G2.out _).mono ?_
  rintro e w6 ⟨rfl, hb6⟩
  have kA := Kept.on (kept (b := A) (o := .cells (pt 0 0 0 0 false) 42 (0, 0)) (by go_simp)) hb6
  have kB := Kept.on (kept (b := B) (o := .cells (rpt 0 0 0) 46 (0, 0)) (by go_simp)) hb6
  have b6 : Hid (Below W.heap.size W w6) := below_to (by repeat (first | exact Below.refl _ _ | exact below_new _ | exact b5.out | assumption | refine Below.drew ?_ | refine Below.drewN ?_ _ | refine below_alloc ?_ _ | refine below_blk' ?_ (by omega) _)) hb6
  clear hb6
  try clear gA lA nA mA
  obtain ⟨gA, lA, nA, mA⟩ := kA
  try clear gB lB nB mB
  obtain ⟨gB, lB, nB, mB⟩ := kB
  clear b5
  go_wp2_with fail
  try clear jA jB
  refine (Y1.out _).mono ?_
  rintro e w7 ⟨rfl, hb7⟩
  have kA := Kept.on (kept (b := A) (o := .cells (pt 0 0 0 0 false) 42 (0, 0)) (by go_simp)) hb7
  have kB := Kept.on (kept (b := B) (o := .cells (rpt 0 0 0) 46 (0, 0)) (by go_simp)) hb7
  have b7 : Hid (Below W.heap.size W w7) := below_to (by repeat (first | exact Below.refl _ _ | exact below_new _ | exact b6.out | assumption | refine Below.drew ?_ | refine Below.drewN ?_ _ | refine below_alloc ?_ _ | refine below_blk' ?_ (by omega) _)) hb7
  clear hb7
  try clear gA lA nA mA
  obtain ⟨gA, lA, nA, mA⟩ := kA
  try clear gB lB nB mB
  obtain ⟨gB, lB, nB, mB⟩ := kB
  clear b6
  go_wp2_with fail
  try clear jA jB
  refine (S1.out _).mono ?_
  rintro e w8 ⟨rfl, hb8⟩
  have kA := Kept.on (kept (b := A) (o := .cells (pt 0 0 0 0 false) 42 (0, 0)) (by go_simp)) hb8
  have kB := Kept.on (kept (b := B) (o := .cells (rpt 0 0 0) 46 (0, 0)) (by go_simp)) hb8
  have b8 : Hid (Below W.heap.size W w8) := below_to (by repeat (first | exact Below.refl _ _ | exact below_new _ | exact b7.out | assumption | refine Below.drew ?_ | refine Below.drewN ?_ _ | refine below_alloc ?_ _ | refine below_blk' ?_ (by omega) _)) hb8
  clear hb8
  try clear gA lA nA mA
  obtain ⟨gA, lA, nA, mA⟩ := kA
  try clear gB lB nB mB
  obtain ⟨gB, lB, nB, mB⟩ := kB
  clear b7
  go_wp2_with fail
  try clear jA jB
  refine (L1.out _).mono ?_
  rintro e w9 ⟨rfl, hb9⟩
  have kA := Kept.on (kept (b := A) (o := .cells (pt 0 0 0 0 false) 42 (0, 0)) (by go_simp)) hb9
  have kB := Kept.on (kept (b := B) (o := .cells (rpt 0 0 0) 46 (0, 0)) (by go_simp)) hb9
  have b9 : Hid (Below W.heap.size W w9) := below_to (by repeat (first | exact Below.refl _ _ | exact below_new _ | exact b8.out | assumption | refine Below.drew ?_ | refine Below.drewN ?_ _ | refine below_alloc ?_ _ | refine below_blk' ?_ (by omega) _)) hb9
  clear hb9
  try clear gA lA nA mA
  obtain ⟨gA, lA, nA, mA⟩ := kA
  try clear gB lB nB mB
  obtain ⟨gB, lB, nB, mB⟩ := kB
  clear b8
  go_wp2_with fail
  go_ret
  exact ⟨rfl, b9.out⟩

set_option maxRecDepth 100000 in
set_option maxHeartbeats 2000000 in
theorem ereads_ok (s : ByteArray) (p : P4) (q : R3) (W : World) (h : s.size ≤ 4096) (h1 : decV s = .tuple #[pv p, .int .i64 0]) (h2 : rdecV s = .tuple #[rv q, .int .i64 0]) (hp : p.bd) (hq : q.bd) (hb1 : p.bytes = s) (hb2 : q.bytes = s) (ho : q.on = true) : Calls Try.prog 6 #[.string s] W fun e w' => e = .returned (.bool true) ∧ Below W.heap.size W w' := by
  have hd2 : decide (4096 < (s.size : Int)) = false := decide_eq_false (by omega)
  have D1 := hid (fun w => h1 ▸ pdecode_v s w (by omega))
  have D2 := hid (fun w => h2 ▸ rdecode_v s w (by omega))
  have G1 := hid (fun w => given_any w)
  have G2 := hid (fun w => d_ref w)
  have Y1 := hid (fun w => hb1 ▸ pbytes_v p w hp)
  have I1 := hid (fun w => is_eq p q s w hp hq hb1 hb2)
  have O1 := hid (fun w => ho ▸ ron_v q w hq)
  have E1 := eqlN dN dN dN_pP dN_pP
  have L1 := hid (fun w => alive_any w)
  have dd : decide (dN = dN) = true := decide_eq_true rfl
  rw [dd] at E1
  clear h1 h2 dd hb1 hb2 ho hp hq
  generalize dN = d at *
  go_enter Try.func6, Try.ntmps6
  go_wp2_with fail
  refine (D1.out _).mono ?_
  rintro e w1 ⟨rfl, hb1⟩
  have b1 := hid hb1
  clear hb1
  go_upto_region 4 with (fail)
  skip
  obtain ⟨A, hA⟩ : ∃ b, w1.heap.size = b := ⟨_, rfl⟩
  have wA : W.heap.size ≤ A := by rw [← hA]; exact b1.out.size
  obtain ⟨w2, hw2⟩ : ∃ w2, w1.alloc (.cells (pt p.x p.y p.z p.t true) 42) = w2 := ⟨_, rfl⟩
  have kA := kept (show hget w2 (w1.heap.size) = some (.cells (pt p.x p.y p.z p.t true) 42) by rw [← hw2]; clear hw2; go_simp)
  have b2 : Hid (Below W.heap.size W w2) := by rw [← hw2]; repeat (first | exact Below.refl _ _ | exact below_new _ | exact b1.out | assumption | refine Below.drew ?_ | refine Below.drewN ?_ _ | refine below_alloc ?_ _ | refine below_blk' ?_ (by omega) _)
  rw [hw2]
  clear hw2
  try clear gA lA nA mA
  try clear jA
  have jA := kA.later
  obtain ⟨gA, lA, nA, mA⟩ := kA
  clear b1
  rw [hA] at *
  clear hA
  go_wp2_with fail
  try clear jA
  refine (D2.out _).mono ?_
  rintro e w3 ⟨rfl, hb3⟩
  have kA := Kept.on (kept (b := A) (o := .cells (pt p.x p.y p.z p.t true) 42 (0, 0)) (by go_simp)) hb3
  have b3 : Hid (Below W.heap.size W w3) := below_to (by repeat (first | exact Below.refl _ _ | exact below_new _ | exact b2.out | assumption | refine Below.drew ?_ | refine Below.drewN ?_ _ | refine below_alloc ?_ _ | refine below_blk' ?_ (by omega) _)) hb3
  clear hb3
  try clear gA lA nA mA
  obtain ⟨gA, lA, nA, mA⟩ := kA
  clear b2
  go_upto_region 5 with (fail)
  obtain ⟨B, hB⟩ : ∃ b, w3.heap.size = b := ⟨_, rfl⟩
  have wB : W.heap.size ≤ B := by rw [← hB]; exact b3.out.size
  have eAB : (A = B) = False := by rw [← hB]; exact nA
  have eBA : (B = A) = False := by rw [← hB]; exact mA
  obtain ⟨w4, hw4⟩ : ∃ w4, w3.alloc (.cells (rpt q.x q.y q.z) 46) = w4 := ⟨_, rfl⟩
  have kA := kept (show hget w4 (A) = some (.cells (pt p.x p.y p.z p.t true) 42 (0, 0)) by rw [← hw4]; clear hw4; go_simp)
  have kB := kept (show hget w4 (w3.heap.size) = some (.cells (rpt q.x q.y q.z) 46) by rw [← hw4]; clear hw4; go_simp)
  have b4 : Hid (Below W.heap.size W w4) := by rw [← hw4]; repeat (first | exact Below.refl _ _ | exact below_new _ | exact b3.out | assumption | refine Below.drew ?_ | refine Below.drewN ?_ _ | refine below_alloc ?_ _ | refine below_blk' ?_ (by omega) _)
  rw [hw4]
  clear hw4
  try clear gA lA nA mA
  try clear jA
  have jA := kA.later
  obtain ⟨gA, lA, nA, mA⟩ := kA
  try clear gB lB nB mB
  try clear jB
  have jB := kB.later
  obtain ⟨gB, lB, nB, mB⟩ := kB
  clear b3
  rw [hB] at *
  clear hB
  go_wp2_with fail
  try clear jA jB
  refine (G1.out _).mono ?_
  rintro e w5 ⟨rfl, hb5⟩
  have kA := Kept.on (kept (b := A) (o := .cells (pt p.x p.y p.z p.t true) 42 (0, 0)) (by go_simp)) hb5
  have kB := Kept.on (kept (b := B) (o := .cells (rpt q.x q.y q.z) 46 (0, 0)) (by go_simp)) hb5
  have b5 : Hid (Below W.heap.size W w5) := below_to (by repeat (first | exact Below.refl _ _ | exact below_new _ | exact b4.out | assumption | refine Below.drew ?_ | refine Below.drewN ?_ _ | refine below_alloc ?_ _ | refine below_blk' ?_ (by omega) _)) hb5
  clear hb5
  try clear gA lA nA mA
  obtain ⟨gA, lA, nA, mA⟩ := kA
  try clear gB lB nB mB
  obtain ⟨gB, lB, nB, mB⟩ := kB
  clear b4
  go_wp2_with fail
  try clear jA jB
  refine (G2.out _).mono ?_
  rintro e w6 ⟨rfl, hb6⟩
  have kA := Kept.on (kept (b := A) (o := .cells (pt p.x p.y p.z p.t true) 42 (0, 0)) (by go_simp)) hb6
  have kB := Kept.on (kept (b := B) (o := .cells (rpt q.x q.y q.z) 46 (0, 0)) (by go_simp)) hb6
  have b6 : Hid (Below W.heap.size W w6) := below_to (by repeat (first | exact Below.refl _ _ | exact below_new _ | exact b5.out | assumption | refine Below.drew ?_ | refine Below.drewN ?_ _ | refine below_alloc ?_ _ | refine below_blk' ?_ (by omega) _)) hb6
  clear hb6
  try clear gA lA nA mA
  obtain ⟨gA, lA, nA, mA⟩ := kA
  try clear gB lB nB mB
  obtain ⟨gB, lB, nB, mB⟩ := kB
  clear b5
  go_wp2_with fail
  try clear jA jB
  refine (Y1.out _).mono ?_
  rintro e w7 ⟨rfl, hb7⟩
  have kA := Kept.on (kept (b := A) (o := .cells (pt p.x p.y p.z p.t true) 42 (0, 0)) (by go_simp)) hb7
  have kB := Kept.on (kept (b := B) (o := .cells (rpt q.x q.y q.z) 46 (0, 0)) (by go_simp)) hb7
  have b7 : Hid (Below W.heap.size W w7) := below_to (by repeat (first | exact Below.refl _ _ | exact below_new _ | exact b6.out | assumption | refine Below.drew ?_ | refine Below.drewN ?_ _ | refine below_alloc ?_ _ | refine below_blk' ?_ (by omega) _)) hb7
  clear hb7
  try clear gA lA nA mA
  obtain ⟨gA, lA, nA, mA⟩ := kA
  try clear gB lB nB mB
  obtain ⟨gB, lB, nB, mB⟩ := kB
  clear b6
  go_wp2_with fail
  try clear jA jB
  refine (I1.out _).mono ?_
  rintro e w8 ⟨rfl, hb8⟩
  have kA := Kept.on (kept (b := A) (o := .cells (pt p.x p.y p.z p.t true) 42 (0, 0)) (by go_simp)) hb8
  have kB := Kept.on (kept (b := B) (o := .cells (rpt q.x q.y q.z) 46 (0, 0)) (by go_simp)) hb8
  have b8 : Hid (Below W.heap.size W w8) := below_to (by repeat (first | exact Below.refl _ _ | exact below_new _ | exact b7.out | assumption | refine Below.drew ?_ | refine Below.drewN ?_ _ | refine below_alloc ?_ _ | refine below_blk' ?_ (by omega) _)) hb8
  clear hb8
  try clear gA lA nA mA
  obtain ⟨gA, lA, nA, mA⟩ := kA
  try clear gB lB nB mB
  obtain ⟨gB, lB, nB, mB⟩ := kB
  clear b7
  go_wp2_with fail
  try clear jA jB
  refine (O1.out _).mono ?_
  rintro e w9 ⟨rfl, hb9⟩
  have kA := Kept.on (kept (b := A) (o := .cells (pt p.x p.y p.z p.t true) 42 (0, 0)) (by go_simp)) hb9
  have kB := Kept.on (kept (b := B) (o := .cells (rpt q.x q.y q.z) 46 (0, 0)) (by go_simp)) hb9
  have b9 : Hid (Below W.heap.size W w9) := below_to (by repeat (first | exact Below.refl _ _ | exact below_new _ | exact b8.out | assumption | refine Below.drew ?_ | refine Below.drewN ?_ _ | refine below_alloc ?_ _ | refine below_blk' ?_ (by omega) _)) hb9
  clear hb9
  try clear gA lA nA mA
  obtain ⟨gA, lA, nA, mA⟩ := kA
  try clear gB lB nB mB
  obtain ⟨gB, lB, nB, mB⟩ := kB
  clear b8
  go_wp2_with fail
  try clear jA jB
  refine (L1.out _).mono ?_
  rintro e w10 ⟨rfl, hb10⟩
  have kA := Kept.on (kept (b := A) (o := .cells (pt p.x p.y p.z p.t true) 42 (0, 0)) (by go_simp)) hb10
  have kB := Kept.on (kept (b := B) (o := .cells (rpt q.x q.y q.z) 46 (0, 0)) (by go_simp)) hb10
  have b10 : Hid (Below W.heap.size W w10) := below_to (by repeat (first | exact Below.refl _ _ | exact below_new _ | exact b9.out | assumption | refine Below.drew ?_ | refine Below.drewN ?_ _ | refine below_alloc ?_ _ | refine below_blk' ?_ (by omega) _)) hb10
  clear hb10
  try clear gA lA nA mA
  obtain ⟨gA, lA, nA, mA⟩ := kA
  try clear gB lB nB mB
  obtain ⟨gB, lB, nB, mB⟩ := kB
  clear b9
  go_wp2_with fail
  go_ret
  exact ⟨rfl, b10.out⟩
set_option maxRecDepth 100000 in
theorem ereads_any (s : ByteArray) (W : World) (hmax : s.size ≤ 9223372036854775807) : Calls Try.prog 6 #[.string s] W fun e w' => e = .returned (.bool true) ∧ Below W.heap.size W w' := by
  by_cases hl : 4096 < s.size
  · exact ereads_far s W hl
  · by_cases h : dOk s = true
    · refine ereads_ok s (dP s) (rP s) W (by omega) (by unfold decV; rw [if_pos h]) (by unfold rdecV; rw [if_pos h]) (dP_bd s) (rP_ok h).bd ((P4.ok_bytes (dP_ok h)).trans (dPt_bytes h)) ((R3.ok_bytes (rP_ok h)).trans (dPt_bytes h)) (R3.ok_on (rP_ok h))
    · refine ereads_bad s (if s.size = 32 then 90 else 2) W (by omega) (by split <;> simp) (by unfold decV; rw [if_neg h]) (by unfold rdecV; rw [if_neg h])

end Go.Proofs.Ytceljjnohjnepaa

namespace Go.Proofs.Ytceljjnohjnepaa
open Go.RowKit Go.Deep

namespace edwReads
open Go.ChangeShapes Go.WideShapes Go.ChangeAt Go.RowKit
open Go.ChangeMaps (open_string shut_string)
set_option maxRecDepth 100000 in
theorem own : ownKnob Try.prog.godebug = none := by kernel_rfl
set_option maxRecDepth 100000 in
theorem laidOut : laidOutB Try.prog = true := by kernel_rfl
set_option maxRecDepth 100000 in
theorem lifted (os : Os) (started : os.Started) (H : Type) (enc : TypeId × Value → H) :
    ReturnsInHanded {} Try.checked os 6 .any (Rows.edwReadsSpec.pre6 enc Try.prog Try.f6 Rows.edwReadsRow.domain false) (Rows.edwReadsSpec.post enc Try.prog Try.f6 false true false false) := by
  refine returnsInHanded_of_change (C := Try.checked) own started (by kernel_rfl) Try.func6
    (ChangeSpec.witness6 (enc := enc) (C := Try.checked) false ⟨#[], #[.string ByteArray.empty], []⟩ 8 (by kernel_rfl) (by kernel_rfl) (by kernel_rfl) (by kernel_rfl)) ?_
  intro W base args ds gs before hval0 hW hcnd _
  have hval : ∀ (j : Nat) t v, Try.f6.params[j]? = some t → args[j]? = some v → Value.okWide Try.prog W .any base t v := hval0
  have hW' := hW
  obtain ⟨p, q, hA0, hV, rfl, hfz, hnd⟩ := hW
  have hA : DataW.TrodAll enc Try.prog W 0 (fun _ => true) true Try.f6.params.toList args.toList ds p := hA0
  rw [Try.params6] at hA hval
  obtain ⟨v0, vs0, d0, ds0, p0, q0, hargs, rfl, rfl, h0, r0⟩ := trodAll_cons hA
  obtain ⟨rfl, rfl, rfl⟩ := trodAll_nil r0
  obtain rfl : args = #[v0] := by cases args; simp_all
  obtain ⟨rfl, rfl⟩ := trodVars_none hV
  have k0 := h0
  have lt0 : ∀ x ∈ p0, x.block < W.heap.size := by obtain ⟨m, hm⟩ := k0; exact DataW.trod_lt m _ _ _ hm
  obtain ⟨a0, rfl, rfl, rfl, w0⟩ := open_string Try.underlying9 (hval 0 9 v0 rfl rfl) h0
  clear hA0 hval0
  refine Calls.mono (R := fun e w' => e = .returned (.bool true) ∧ Below W.heap.size W w') ?_ fun e W' ⟨he, bel⟩ => ?_
  · exact ereads_any a0 W w0
  subst he
  exact ⟨_, rfl, _, _, _, [], _, [], hW', trodAll_mk1 (shut_bool Try.underlying4 _), (trodAll_cons_mk (Below.trod laidOut (by kernel_rfl) (of_decide_eq_true (by kernel_rfl)) k0 bel lt0) trodAll_mk0), rfl, bel.frame _, fun h => by cases h⟩

set_option maxRecDepth 100000 in
theorem over : Rows.edwReadsRow.holds Try.pinned (OpenSpec.ofChange Rows.edwReadsSpec) :=
  OpenClaim.holds_of_wide 6 Try.f6 rfl rfl rfl rfl rfl rfl rfl ⟨rfl, rfl, rfl, rfl, rfl⟩ rfl rfl rfl rfl rfl (by kernel_rfl) Try.func6 (by kernel_rfl)
    (of_decide_eq_true (by kernel_rfl)) (by unfold Func.isWrapper; first | (rw [if_pos (by decide +kernel)]; kernel_rfl) | (rw [if_neg (by decide +kernel)]; exact ⟨rfl, rfl⟩))
    (fun os started H enc _ => lifted os started H enc)
end edwReads
set_option maxRecDepth 100000 in
/-- The given statement. -/
theorem edwReads_proved : Rows.EdwReadsSaid := edwReads.over
#print axioms edwReads_proved

end Go.Proofs.Ytceljjnohjnepaa
