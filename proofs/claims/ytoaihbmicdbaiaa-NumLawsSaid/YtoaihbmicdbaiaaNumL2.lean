/- The laws' walks: NumReads, NumInverts, NumReckons. -/
import Derived.Test.YtoaihbmicdbaiaaNumL1
import Derived.Test.YtoaihbmicdbaiaaNumQ3
import Derived.Test.YtoaihbmicdbaiaaNumW2
namespace Go.Proofs.Ytoaihbmicdbaiaa
open Go.RowKit DG
attribute [local go_sem ↓] exl_Elem exs_Elem exl_Num exs_Num
                 attribute [local go_sem] ldr_Elem str_Elem ldr_Num str_Num
attribute [local go_sem] to_quad0 to_nine0

set_option maxHeartbeats 1000000 in
theorem reads_far (s : ByteArray) (n : Nat) (W : World) (h : 4096 < s.size) : Calls Try.prog 4 #[.string s, .int .u32 (n : Int)] W fun e w' => e = .returned (.bool true) ∧ Below W.heap.size W w' := by
  have hd2 : decide (4096 < (s.size : Int)) = true := decide_eq_true (by omega)
  go_enter Try.func4, Try.ntmps4
  go_wp2_with fail
  refine (alive_any _).mono ?_
  rintro e w1 ⟨rfl, hb1⟩
  go_wp2_with fail
  go_ret
  exact ⟨rfl, hb1⟩

set_option maxHeartbeats 2000000 in
theorem reads_no (s : ByteArray) (n : Nat) (W : World) (h1 : s.size ≠ 32) (h : s.size ≤ 4096) (hn : n < 4294967296) : Calls Try.prog 4 #[.string s, .int .u32 (n : Int)] W fun e w' => e = .returned (.bool true) ∧ Below W.heap.size W w' := by
  have hd2 : decide (4096 < (s.size : Int)) = false := decide_eq_false (by omega)
  have hne : ((s.size : Int) != 32) = true := by rw [bne_iff_ne]; omega
  have hof := hid (fun w => Of_no s w h1 (by omega))
  have hca := hid (fun w => canonical_any s w (by omega))
  have hrc := hid (fun w => ref_Canonical s w (by omega))
  have hs := hid (fun w => small_any n w hn)
  have hrs := hid (fun w => ref_Small n w hn)
  have hnp : n < p2 := Nat.lt_trans hn (by decide)
  have his := hid (fun w => is_any n n w hnp (Nat.mod_eq_of_lt (Nat.lt_trans hn (by decide))))
  have hsa := fun w => same_any 0 0 w (by decide) (by decide)
  simp only [decide_true] at hsa
  have HSA := hid hsa
  clear hsa hnp h1
  generalize canB s = cb at *
  go_enter Try.func4, Try.ntmps4
  go_wp2_with fail
  refine (hof.out _).mono ?_
  rintro e w1 ⟨rfl, hb1⟩
  have b1 : Hid (Below W.heap.size W w1) := below_to (by repeat (first | exact Below.refl _ _ | exact below_new _ | assumption | refine Below.drew ?_ | refine Below.drewN ?_ _ | refine below_alloc ?_ _ | refine below_blk' ?_ (by omega) _)) hb1
  clear hb1
  go_wp2_with fail
  obtain ⟨w2, hw2⟩ : ∃ w2, w1.alloc (.cells (quad 0) 24) = w2 := ⟨_, rfl⟩
  have kA := kept (show hget w2 (w1.heap.size) = some (.cells (quad 0) 24 (0, 0)) by rw [← hw2]; clear hw2; go_simp)
  have b2 : Hid (Below W.heap.size W w2) := by rw [← hw2]; repeat (first | exact Below.refl _ _ | exact below_new _ | exact b1.out | assumption | refine Below.drew ?_ | refine Below.drewN ?_ _ | refine below_alloc ?_ _ | refine below_blk' ?_ (by omega) _)
  rw [hw2]
  clear hw2
  try clear gA lA nA mA
  try clear jA
  have jA := kA.later
  obtain ⟨gA, lA, nA, mA⟩ := kA
  clear b1
  clear jA
  generalize w1.heap.size = A at *
  refine (hca.out _).mono ?_
  rintro e w3 ⟨rfl, hb3⟩
  have kA := Kept.on (kept (b := A) (o := .cells (quad 0) 24 (0, 0)) (by go_simp)) hb3
  have b3 : Hid (Below W.heap.size W w3) := below_to (by repeat (first | exact Below.refl _ _ | exact below_new _ | exact b2.out | assumption | refine Below.drew ?_ | refine Below.drewN ?_ _ | refine below_alloc ?_ _ | refine below_blk' ?_ (by omega) _)) hb3
  clear hb3
  try clear gA lA nA mA
  obtain ⟨gA, lA, nA, mA⟩ := kA
  clear b2
  go_wp2_with fail
  refine (hrc.out _).mono ?_
  rintro e w4 ⟨rfl, hb4⟩
  have kA := Kept.on (kept (b := A) (o := .cells (quad 0) 24 (0, 0)) (by go_simp)) hb4
  have b4 : Hid (Below W.heap.size W w4) := below_to (by repeat (first | exact Below.refl _ _ | exact below_new _ | exact b3.out | assumption | refine Below.drew ?_ | refine Below.drewN ?_ _ | refine below_alloc ?_ _ | refine below_blk' ?_ (by omega) _)) hb4
  clear hb4
  try clear gA lA nA mA
  obtain ⟨gA, lA, nA, mA⟩ := kA
  clear b3
  go_wp2_with fail
  refine (hs.out _).mono ?_
  rintro e w5 ⟨rfl, hb5⟩
  have kA := Kept.on (kept (b := A) (o := .cells (quad 0) 24 (0, 0)) (by go_simp)) hb5
  have b5 : Hid (Below W.heap.size W w5) := below_to (by repeat (first | exact Below.refl _ _ | exact below_new _ | exact b4.out | assumption | refine Below.drew ?_ | refine Below.drewN ?_ _ | refine below_alloc ?_ _ | refine below_blk' ?_ (by omega) _)) hb5
  clear hb5
  try clear gA lA nA mA
  obtain ⟨gA, lA, nA, mA⟩ := kA
  clear b4
  go_wp2_with fail
  refine (hrs.out _).mono ?_
  rintro e w6 ⟨rfl, hb6⟩
  have kA := Kept.on (kept (b := A) (o := .cells (quad 0) 24 (0, 0)) (by go_simp)) hb6
  have b6 : Hid (Below W.heap.size W w6) := below_to (by repeat (first | exact Below.refl _ _ | exact below_new _ | exact b5.out | assumption | refine Below.drew ?_ | refine Below.drewN ?_ _ | refine below_alloc ?_ _ | refine below_blk' ?_ (by omega) _)) hb6
  clear hb6
  try clear gA lA nA mA
  obtain ⟨gA, lA, nA, mA⟩ := kA
  clear b5
  go_wp2_with fail
  refine (his.out _).mono ?_
  rintro e w7 ⟨rfl, hb7⟩
  have kA := Kept.on (kept (b := A) (o := .cells (quad 0) 24 (0, 0)) (by go_simp)) hb7
  have b7 : Hid (Below W.heap.size W w7) := below_to (by repeat (first | exact Below.refl _ _ | exact below_new _ | exact b6.out | assumption | refine Below.drew ?_ | refine Below.drewN ?_ _ | refine below_alloc ?_ _ | refine below_blk' ?_ (by omega) _)) hb7
  clear hb7
  try clear gA lA nA mA
  obtain ⟨gA, lA, nA, mA⟩ := kA
  clear b6
  go_wp2_with fail
  refine (HSA.out _).mono ?_
  rintro e w8 ⟨rfl, hb8⟩
  have b8 : Hid (Below W.heap.size W w8) := below_to (by repeat (first | exact Below.refl _ _ | exact below_new _ | exact b7.out | assumption | refine Below.drew ?_ | refine Below.drewN ?_ _ | refine below_alloc ?_ _ | refine below_blk' ?_ (by omega) _)) hb8
  clear hb8
  clear b7
  go_wp2_with fail
  refine (alive_any _).mono ?_
  rintro e w9 ⟨rfl, hb9⟩
  have b9 : Hid (Below W.heap.size W w9) := below_to (by repeat (first | exact Below.refl _ _ | exact below_new _ | exact b8.out | assumption | refine Below.drew ?_ | refine Below.drewN ?_ _ | refine below_alloc ?_ _ | refine below_blk' ?_ (by omega) _)) hb9
  clear hb9
  clear b8
  go_wp2_with fail
  go_ret
  exact ⟨rfl, b9.out⟩

set_option maxHeartbeats 2000000 in
theorem reads_32 (s : ByteArray) (n : Nat) (W : World) (h1 : s.size = 32) (hn : n < 4294967296) : Calls Try.prog 4 #[.string s, .int .u32 (n : Int)] W fun e w' => e = .returned (.bool true) ∧ Below W.heap.size W w' := by
  have hd2 : decide (4096 < (s.size : Int)) = false := decide_eq_false (by omega)
  have hne : ((s.size : Int) != 32) = false := by rw [bne_eq_false_iff_eq]; omega
  have hof := hid (fun w => Of_32 s w h1)
  have hro := hid (fun w => ref_Of s w (by omega))
  have hca := hid (fun w => canonical_any s w (by omega))
  have hrc := hid (fun w => ref_Canonical s w (by omega))
  have hs := hid (fun w => small_any n w hn)
  have hrs := hid (fun w => ref_Small n w hn)
  have hnp : n < p2 := Nat.lt_trans hn (by decide)
  have his := hid (fun w => is_any n n w hnp (Nat.mod_eq_of_lt (Nat.lt_trans hn (by decide))))
  have hlt := bytes32_lt h1
  generalize bytesNat s.data.toList = a at *
  obtain ⟨r, hr⟩ : ∃ r, a % pP = r := ⟨_, rfl⟩
  have hi2 := hid (fun w => is_any a r w hlt hr)
  have hod := hid (fun w => odd_any a w hlt)
  rw [hr] at hro hod
  have ho9 := odd9 r
  generalize decide (r % 2 = 1) = od at *
  clear hnp h1 hr hlt
  generalize canB s = cb at *
  go_enter Try.func4, Try.ntmps4
  go_wp2_with fail
  refine (hof.out _).mono ?_
  rintro e w1 ⟨rfl, hb1⟩
  have b1 : Hid (Below W.heap.size W w1) := below_to (by repeat (first | exact Below.refl _ _ | exact below_new _ | assumption | refine Below.drew ?_ | refine Below.drewN ?_ _ | refine below_alloc ?_ _ | refine below_blk' ?_ (by omega) _)) hb1
  clear hb1
  go_wp2_with fail
  obtain ⟨w2, hw2⟩ : ∃ w2, w1.alloc (.cells (quad a) 24) = w2 := ⟨_, rfl⟩
  have kA := kept (show hget w2 (w1.heap.size) = some (.cells (quad a) 24 (0, 0)) by rw [← hw2]; clear hw2; go_simp)
  have b2 : Hid (Below W.heap.size W w2) := by rw [← hw2]; repeat (first | exact Below.refl _ _ | exact below_new _ | exact b1.out | assumption | refine Below.drew ?_ | refine Below.drewN ?_ _ | refine below_alloc ?_ _ | refine below_blk' ?_ (by omega) _)
  rw [hw2]
  clear hw2
  try clear gA lA nA mA
  try clear jA
  have jA := kA.later
  obtain ⟨gA, lA, nA, mA⟩ := kA
  clear b1
  clear jA
  generalize w1.heap.size = A at *
  refine (hca.out _).mono ?_
  rintro e w3 ⟨rfl, hb3⟩
  have kA := Kept.on (kept (b := A) (o := .cells (quad a) 24 (0, 0)) (by go_simp)) hb3
  have b3 : Hid (Below W.heap.size W w3) := below_to (by repeat (first | exact Below.refl _ _ | exact below_new _ | exact b2.out | assumption | refine Below.drew ?_ | refine Below.drewN ?_ _ | refine below_alloc ?_ _ | refine below_blk' ?_ (by omega) _)) hb3
  clear hb3
  try clear gA lA nA mA
  obtain ⟨gA, lA, nA, mA⟩ := kA
  clear b2
  go_wp2_with fail
  refine (hrc.out _).mono ?_
  rintro e w4 ⟨rfl, hb4⟩
  have kA := Kept.on (kept (b := A) (o := .cells (quad a) 24 (0, 0)) (by go_simp)) hb4
  have b4 : Hid (Below W.heap.size W w4) := below_to (by repeat (first | exact Below.refl _ _ | exact below_new _ | exact b3.out | assumption | refine Below.drew ?_ | refine Below.drewN ?_ _ | refine below_alloc ?_ _ | refine below_blk' ?_ (by omega) _)) hb4
  clear hb4
  try clear gA lA nA mA
  obtain ⟨gA, lA, nA, mA⟩ := kA
  clear b3
  go_wp2_with fail
  refine (hs.out _).mono ?_
  rintro e w5 ⟨rfl, hb5⟩
  have kA := Kept.on (kept (b := A) (o := .cells (quad a) 24 (0, 0)) (by go_simp)) hb5
  have b5 : Hid (Below W.heap.size W w5) := below_to (by repeat (first | exact Below.refl _ _ | exact below_new _ | exact b4.out | assumption | refine Below.drew ?_ | refine Below.drewN ?_ _ | refine below_alloc ?_ _ | refine below_blk' ?_ (by omega) _)) hb5
  clear hb5
  try clear gA lA nA mA
  obtain ⟨gA, lA, nA, mA⟩ := kA
  clear b4
  go_wp2_with fail
  refine (hrs.out _).mono ?_
  rintro e w6 ⟨rfl, hb6⟩
  have kA := Kept.on (kept (b := A) (o := .cells (quad a) 24 (0, 0)) (by go_simp)) hb6
  have b6 : Hid (Below W.heap.size W w6) := below_to (by repeat (first | exact Below.refl _ _ | exact below_new _ | exact b5.out | assumption | refine Below.drew ?_ | refine Below.drewN ?_ _ | refine below_alloc ?_ _ | refine below_blk' ?_ (by omega) _)) hb6
  clear hb6
  try clear gA lA nA mA
  obtain ⟨gA, lA, nA, mA⟩ := kA
  clear b5
  go_wp2_with fail
  refine (his.out _).mono ?_
  rintro e w7 ⟨rfl, hb7⟩
  have kA := Kept.on (kept (b := A) (o := .cells (quad a) 24 (0, 0)) (by go_simp)) hb7
  have b7 : Hid (Below W.heap.size W w7) := below_to (by repeat (first | exact Below.refl _ _ | exact below_new _ | exact b6.out | assumption | refine Below.drew ?_ | refine Below.drewN ?_ _ | refine below_alloc ?_ _ | refine below_blk' ?_ (by omega) _)) hb7
  clear hb7
  try clear gA lA nA mA
  obtain ⟨gA, lA, nA, mA⟩ := kA
  clear b6
  go_wp2_with fail
  refine (hro.out _).mono ?_
  rintro e w8 ⟨rfl, hb8⟩
  have kA := Kept.on (kept (b := A) (o := .cells (quad a) 24 (0, 0)) (by go_simp)) hb8
  have b8 : Hid (Below W.heap.size W w8) := below_to (by repeat (first | exact Below.refl _ _ | exact below_new _ | exact b7.out | assumption | refine Below.drew ?_ | refine Below.drewN ?_ _ | refine below_alloc ?_ _ | refine below_blk' ?_ (by omega) _)) hb8
  clear hb8
  try clear gA lA nA mA
  obtain ⟨gA, lA, nA, mA⟩ := kA
  clear b7
  go_wp2_with fail
  obtain ⟨w9, hw9⟩ : ∃ w9, w8.alloc (.cells (nine r) 30) = w9 := ⟨_, rfl⟩
  have kA := kept (show hget w9 (A) = some (.cells (quad a) 24 (0, 0)) by rw [← hw9]; clear hw9; go_simp)
  have kB := kept (show hget w9 (w8.heap.size) = some (.cells (nine r) 30 (0, 0)) by rw [← hw9]; clear hw9; go_simp)
  have b9 : Hid (Below W.heap.size W w9) := by rw [← hw9]; repeat (first | exact Below.refl _ _ | exact below_new _ | exact b8.out | assumption | refine Below.drew ?_ | refine Below.drewN ?_ _ | refine below_alloc ?_ _ | refine below_blk' ?_ (by omega) _)
  rw [hw9]
  clear hw9
  try clear gA lA nA mA
  try clear jA
  have jA := kA.later
  obtain ⟨gA, lA, nA, mA⟩ := kA
  try clear gB lB nB mB
  try clear jB
  have jB := kB.later
  obtain ⟨gB, lB, nB, mB⟩ := kB
  clear b8
  have cB := later_cell (nine_cell0 gB)
  refine wp_region_later (by kernel_rfl) (by kernel_rfl) ?_
  repeat ((go_big_quiet_step ((first | (go_at_call 13; with_reducible exact calls_later (hi2.out _)) | (go_at_call 21; with_reducible exact calls_later (hod.out _)) | (go_at_call 9; exact calls_later (alive_any _))))))
  refine wpQuiet_nil ?_
  intro wL hwL
  obtain ⟨⟨w8, hL⟩, e8⟩ := hwL
  change wL = w8 at e8
  subst e8
  have bZ := hid (below_to b9.out hL)
  clear hL
  go_wp2_with fail
  go_ret
  exact ⟨rfl, bZ.out⟩

set_option maxHeartbeats 2000000 in
theorem inverts_no (s : ByteArray) (odd : Bool) (W : World) (h1 : s.size ≠ 32) (hmax : s.size ≤ 9223372036854775807) : Calls Try.prog 3 #[.string s, .bool odd] W fun e w' => e = .returned (.bool true) ∧ Below W.heap.size W w' := by
  have hof := hid (fun w => Of_no s w h1 hmax)
  go_enter Try.func3, Try.ntmps3
  go_wp2_with fail
  refine (hof.out _).mono ?_
  rintro e w1 ⟨rfl, hb1⟩
  have b1 : Hid (Below W.heap.size W w1) := below_to (by repeat (first | exact Below.refl _ _ | exact below_new _ | assumption | refine Below.drew ?_ | refine Below.drewN ?_ _ | refine below_alloc ?_ _ | refine below_blk' ?_ (by omega) _)) hb1
  clear hb1
  go_wp2_with fail
  refine (alive_any _).mono ?_
  rintro e w2 ⟨rfl, hb2⟩
  have b2 : Hid (Below W.heap.size W w2) := below_to (by repeat (first | exact Below.refl _ _ | exact below_new _ | exact b1.out | assumption | refine Below.drew ?_ | refine Below.drewN ?_ _ | refine below_alloc ?_ _ | refine below_blk' ?_ (by omega) _)) hb2
  clear hb2
  clear b1
  go_wp2_with fail
  go_ret
  exact ⟨rfl, b2.out⟩

set_option maxHeartbeats 2000000 in
theorem inverts_32 (s : ByteArray) (odd : Bool) (W : World) (h1 : s.size = 32) : Calls Try.prog 3 #[.string s, .bool odd] W fun e w' => e = .returned (.bool true) ∧ Below W.heap.size W w' := by
  have hof := hid (fun w => Of_32 s w h1)
  have hro := hid (fun w => ref_Of s w (by omega))
  have hlt := bytes32_lt h1
  generalize bytesNat s.data.toList = a at *
  have hrt := fun w => root_any a odd w hlt
  have hrr := fun w => ref_Root (a % pP) odd w (Nat.mod_lt _ (by decide))
  have hiv := hid (fun w => inv_any a w hlt)
  have hri := hid (fun w => ref_Inv (a % pP) w (Nat.mod_lt _ (by decide)))
  have hi1 := hid (fun w => is_any (invN a) (rInv (a % pP)) w (raised_lt hlt) (inv_mod a))
  have hi2 := hid (fun w => is_any (rootV a odd) (if rIs (a % pP) = true then rRoot2 (a % pP) odd else 0) w (rootV_lt hlt odd) (rootV_mod hlt odd))
  rw [ok_mod hlt] at hrt
  change ∀ w, Calls _ _ _ w (fun e w' => e = .returned (.tuple #[.agg (quad (if _ = true then root2 a odd else 0)), _]) ∧ _) at hrt
  have hv : (if (rIs (a % pP) && (decide (rRoot2 (a % pP) odd % 2 = 1) == odd)) = true then root2 a odd else 0) = rootV a odd := by unfold rootV; rw [ok_mod hlt]
  rw [hv] at hrt
  generalize (if rIs (a % pP) = true then rRoot2 (a % pP) odd else 0) = q at *
  generalize (rIs (a % pP) && (decide (rRoot2 (a % pP) odd % 2 = 1) == odd)) = ok at *
  generalize rootV a odd = v at *
  generalize invN a = iv at *
  generalize rInv (a % pP) = ri at *
  generalize a % pP = r at *
  have HRT := hid hrt
  have HRR := hid hrr
  clear hrt hrr hv hlt h1
  go_enter Try.func3, Try.ntmps3
  go_wp2_with fail
  refine (hof.out _).mono ?_
  rintro e w1 ⟨rfl, hb1⟩
  have b1 : Hid (Below W.heap.size W w1) := below_to (by repeat (first | exact Below.refl _ _ | exact below_new _ | assumption | refine Below.drew ?_ | refine Below.drewN ?_ _ | refine below_alloc ?_ _ | refine below_blk' ?_ (by omega) _)) hb1
  clear hb1
  go_wp2_with fail
  obtain ⟨w2, hw2⟩ : ∃ w2, w1.alloc (.cells (quad a) 24) = w2 := ⟨_, rfl⟩
  have kA := kept (show hget w2 (w1.heap.size) = some (.cells (quad a) 24 (0, 0)) by rw [← hw2]; clear hw2; go_simp)
  have b2 : Hid (Below W.heap.size W w2) := by rw [← hw2]; repeat (first | exact Below.refl _ _ | exact below_new _ | exact b1.out | assumption | refine Below.drew ?_ | refine Below.drewN ?_ _ | refine below_alloc ?_ _ | refine below_blk' ?_ (by omega) _)
  rw [hw2]
  clear hw2
  try clear gA lA nA mA
  try clear jA
  have jA := kA.later
  obtain ⟨gA, lA, nA, mA⟩ := kA
  clear b1
  clear jA
  generalize w1.heap.size = A at *
  refine (hro.out _).mono ?_
  rintro e w3 ⟨rfl, hb3⟩
  have kA := Kept.on (kept (b := A) (o := .cells (quad a) 24 (0, 0)) (by go_simp)) hb3
  have b3 : Hid (Below W.heap.size W w3) := below_to (by repeat (first | exact Below.refl _ _ | exact below_new _ | exact b2.out | assumption | refine Below.drew ?_ | refine Below.drewN ?_ _ | refine below_alloc ?_ _ | refine below_blk' ?_ (by omega) _)) hb3
  clear hb3
  try clear gA lA nA mA
  obtain ⟨gA, lA, nA, mA⟩ := kA
  clear b2
  go_wp2_with fail
  obtain ⟨C, hC⟩ : ∃ b, w3.heap.size = b := ⟨_, rfl⟩
  have wC : W.heap.size ≤ C := by rw [← hC]; exact b3.out.size
  have eAC : (A = C) = False := by rw [← hC]; exact nA
  have eCA : (C = A) = False := by rw [← hC]; exact mA
  obtain ⟨w4, hw4⟩ : ∃ w4, w3.alloc (.cells (nine r) 30) = w4 := ⟨_, rfl⟩
  have kA := kept (show hget w4 (A) = some (.cells (quad a) 24 (0, 0)) by rw [← hw4]; clear hw4; go_simp)
  have kC := kept (show hget w4 (w3.heap.size) = some (.cells (nine r) 30) by rw [← hw4]; clear hw4; go_simp)
  have b4 : Hid (Below W.heap.size W w4) := by rw [← hw4]; repeat (first | exact Below.refl _ _ | exact below_new _ | exact b3.out | assumption | refine Below.drew ?_ | refine Below.drewN ?_ _ | refine below_alloc ?_ _ | refine below_blk' ?_ (by omega) _)
  rw [hw4]
  clear hw4
  try clear gA lA nA mA
  try clear jA
  have jA := kA.later
  obtain ⟨gA, lA, nA, mA⟩ := kA
  try clear gC lC nC mC
  try clear jC
  have jC := kC.later
  obtain ⟨gC, lC, nC, mC⟩ := kC
  clear b3
  rw [hC] at *
  clear hC
  refine (HRT.out _).mono ?_
  rintro e w5 ⟨rfl, hb5⟩
  have kA := Kept.on (kept (b := A) (o := .cells (quad a) 24 (0, 0)) (by go_simp)) hb5
  have kC := Kept.on (kept (b := C) (o := .cells (nine r) 30 (0, 0)) (by go_simp)) hb5
  have b5 : Hid (Below W.heap.size W w5) := below_to (by repeat (first | exact Below.refl _ _ | exact below_new _ | exact b4.out | assumption | refine Below.drew ?_ | refine Below.drewN ?_ _ | refine below_alloc ?_ _ | refine below_blk' ?_ (by omega) _)) hb5
  clear hb5
  try clear gA lA nA mA
  obtain ⟨gA, lA, nA, mA⟩ := kA
  try clear gC lC nC mC
  obtain ⟨gC, lC, nC, mC⟩ := kC
  clear b4
  go_wp2_with fail
  obtain ⟨D, hD⟩ : ∃ b, w5.heap.size = b := ⟨_, rfl⟩
  have wD : W.heap.size ≤ D := by rw [← hD]; exact b5.out.size
  have eAD : (A = D) = False := by rw [← hD]; exact nA
  have eDA : (D = A) = False := by rw [← hD]; exact mA
  have eCD : (C = D) = False := by rw [← hD]; exact nC
  have eDC : (D = C) = False := by rw [← hD]; exact mC
  obtain ⟨w6, hw6⟩ : ∃ w6, w5.alloc (.cells (quad v) 24) = w6 := ⟨_, rfl⟩
  have kA := kept (show hget w6 (A) = some (.cells (quad a) 24 (0, 0)) by rw [← hw6]; clear hw6; go_simp)
  have kC := kept (show hget w6 (C) = some (.cells (nine r) 30 (0, 0)) by rw [← hw6]; clear hw6; go_simp)
  have kD := kept (show hget w6 (w5.heap.size) = some (.cells (quad v) 24) by rw [← hw6]; clear hw6; go_simp)
  have b6 : Hid (Below W.heap.size W w6) := by rw [← hw6]; repeat (first | exact Below.refl _ _ | exact below_new _ | exact b5.out | assumption | refine Below.drew ?_ | refine Below.drewN ?_ _ | refine below_alloc ?_ _ | refine below_blk' ?_ (by omega) _)
  rw [hw6]
  clear hw6
  try clear gA lA nA mA
  try clear jA
  have jA := kA.later
  obtain ⟨gA, lA, nA, mA⟩ := kA
  try clear gC lC nC mC
  try clear jC
  have jC := kC.later
  obtain ⟨gC, lC, nC, mC⟩ := kC
  try clear gD lD nD mD
  try clear jD
  have jD := kD.later
  obtain ⟨gD, lD, nD, mD⟩ := kD
  clear b5
  rw [hD] at *
  clear hD
  refine (HRR.out _).mono ?_
  rintro e w7 ⟨rfl, hb7⟩
  have kA := Kept.on (kept (b := A) (o := .cells (quad a) 24 (0, 0)) (by go_simp)) hb7
  have kC := Kept.on (kept (b := C) (o := .cells (nine r) 30 (0, 0)) (by go_simp)) hb7
  have kD := Kept.on (kept (b := D) (o := .cells (quad v) 24 (0, 0)) (by go_simp)) hb7
  have b7 : Hid (Below W.heap.size W w7) := below_to (by repeat (first | exact Below.refl _ _ | exact below_new _ | exact b6.out | assumption | refine Below.drew ?_ | refine Below.drewN ?_ _ | refine below_alloc ?_ _ | refine below_blk' ?_ (by omega) _)) hb7
  clear hb7
  try clear gA lA nA mA
  obtain ⟨gA, lA, nA, mA⟩ := kA
  try clear gC lC nC mC
  obtain ⟨gC, lC, nC, mC⟩ := kC
  try clear gD lD nD mD
  obtain ⟨gD, lD, nD, mD⟩ := kD
  clear b6
  go_wp2_with fail
  obtain ⟨E, hE⟩ : ∃ b, w7.heap.size = b := ⟨_, rfl⟩
  have wE : W.heap.size ≤ E := by rw [← hE]; exact b7.out.size
  have eAE : (A = E) = False := by rw [← hE]; exact nA
  have eEA : (E = A) = False := by rw [← hE]; exact mA
  have eCE : (C = E) = False := by rw [← hE]; exact nC
  have eEC : (E = C) = False := by rw [← hE]; exact mC
  have eDE : (D = E) = False := by rw [← hE]; exact nD
  have eED : (E = D) = False := by rw [← hE]; exact mD
  obtain ⟨w8, hw8⟩ : ∃ w8, w7.alloc (.cells (nine q) 30) = w8 := ⟨_, rfl⟩
  have kA := kept (show hget w8 (A) = some (.cells (quad a) 24 (0, 0)) by rw [← hw8]; clear hw8; go_simp)
  have kC := kept (show hget w8 (C) = some (.cells (nine r) 30 (0, 0)) by rw [← hw8]; clear hw8; go_simp)
  have kD := kept (show hget w8 (D) = some (.cells (quad v) 24 (0, 0)) by rw [← hw8]; clear hw8; go_simp)
  have kE := kept (show hget w8 (w7.heap.size) = some (.cells (nine q) 30) by rw [← hw8]; clear hw8; go_simp)
  have b8 : Hid (Below W.heap.size W w8) := by rw [← hw8]; repeat (first | exact Below.refl _ _ | exact below_new _ | exact b7.out | assumption | refine Below.drew ?_ | refine Below.drewN ?_ _ | refine below_alloc ?_ _ | refine below_blk' ?_ (by omega) _)
  rw [hw8]
  clear hw8
  try clear gA lA nA mA
  try clear jA
  have jA := kA.later
  obtain ⟨gA, lA, nA, mA⟩ := kA
  try clear gC lC nC mC
  try clear jC
  have jC := kC.later
  obtain ⟨gC, lC, nC, mC⟩ := kC
  try clear gD lD nD mD
  try clear jD
  have jD := kD.later
  obtain ⟨gD, lD, nD, mD⟩ := kD
  try clear gE lE nE mE
  try clear jE
  have jE := kE.later
  obtain ⟨gE, lE, nE, mE⟩ := kE
  clear b7
  rw [hE] at *
  clear hE
  refine wp_region_later (by kernel_rfl) (by kernel_rfl) ?_
  repeat ((go_big_quiet_step ((first | (go_at_call 14; with_reducible exact calls_later (hiv.out _)) | (go_at_call 15; with_reducible exact calls_later (hri.out _)) | (go_at_call 13; first | with_reducible exact calls_later (hi1.out _) | with_reducible exact calls_later (hi2.out _)) | (go_at_call 9; exact calls_later (alive_any _))))))
  refine wpQuiet_nil ?_
  intro wL hwL
  obtain ⟨⟨w8, hL⟩, e8⟩ := hwL
  change wL = w8 at e8
  subst e8
  have bZ := hid (below_to b8.out hL)
  clear hL
  go_wp2_with fail
  go_ret
  exact ⟨rfl, bZ.out⟩

set_option maxHeartbeats 2000000 in
theorem reckons_no (s t : ByteArray) (second : Bool) (W : World) (h1 : s.size ≠ 32 ∨ t.size ≠ 32) (hmax : s.size ≤ 9223372036854775807) (hmax2 : t.size ≤ 9223372036854775807) : Calls Try.prog 5 #[.string s, .string t, .bool second] W fun e w' => e = .returned (.bool true) ∧ Below W.heap.size W w' := by
  have hof := hid (fun w => Of_any s w hmax)
  have hof2 := hid (fun w => Of_any t w hmax2)
  have hz : ((if s.size = 32 then (0 : Int) else 2) != 0) = true ∨ ((if s.size = 32 then (0 : Int) else 2) = 0 ∧ ((if t.size = 32 then (0 : Int) else 2) != 0) = true) := by
    by_cases h : s.size = 32
    · have h2 : t.size ≠ 32 := h1.resolve_left (fun h' => h' h)
      right; rw [if_pos h, if_neg h2]; exact ⟨rfl, by decide⟩
    · left; rw [if_neg h]; decide
  generalize (if s.size = 32 then bytesNat s.data.toList else 0) = a at *
  generalize (if t.size = 32 then bytesNat t.data.toList else 0) = b at *
  generalize (if s.size = 32 then (0 : Int) else 2) = e1 at *
  generalize (if t.size = 32 then (0 : Int) else 2) = e2 at *
  clear h1
  go_enter Try.func5, Try.ntmps5
  go_wp2_with fail
  refine (hof.out _).mono ?_
  rintro e w1 ⟨rfl, hb1⟩
  have b1 : Hid (Below W.heap.size W w1) := below_to (by repeat (first | exact Below.refl _ _ | exact below_new _ | assumption | refine Below.drew ?_ | refine Below.drewN ?_ _ | refine below_alloc ?_ _ | refine below_blk' ?_ (by omega) _)) hb1
  clear hb1
  go_wp2_with fail
  obtain ⟨w2, hw2⟩ : ∃ w2, w1.alloc (.cells (quad a) 24) = w2 := ⟨_, rfl⟩
  have b2 : Hid (Below W.heap.size W w2) := by rw [← hw2]; repeat (first | exact Below.refl _ _ | exact below_new _ | exact b1.out | assumption | refine Below.drew ?_ | refine Below.drewN ?_ _ | refine below_alloc ?_ _ | refine below_blk' ?_ (by omega) _)
  rw [hw2]
  clear hw2
  clear b1
  refine (hof2.out _).mono ?_
  rintro e w3 ⟨rfl, hb3⟩
  have b3 : Hid (Below W.heap.size W w3) := below_to (by repeat (first | exact Below.refl _ _ | exact below_new _ | exact b2.out | assumption | refine Below.drew ?_ | refine Below.drewN ?_ _ | refine below_alloc ?_ _ | refine below_blk' ?_ (by omega) _)) hb3
  clear hb3
  clear b2
  rcases hz with hz | ⟨rfl, hz⟩
  · go_wp2_with fail
    obtain ⟨w4, hw4⟩ : ∃ w4, w3.alloc (.cells (quad b) 24) = w4 := ⟨_, rfl⟩
    have b4 : Hid (Below W.heap.size W w4) := by rw [← hw4]; repeat (first | exact Below.refl _ _ | exact below_new _ | exact b3.out | assumption | refine Below.drew ?_ | refine Below.drewN ?_ _ | refine below_alloc ?_ _ | refine below_blk' ?_ (by omega) _)
    rw [hw4]
    clear hw4
    clear b3
    refine (alive_any _).mono ?_
    rintro e w5 ⟨rfl, hb5⟩
    have b5 : Hid (Below W.heap.size W w5) := below_to (by repeat (first | exact Below.refl _ _ | exact below_new _ | exact b4.out | assumption | refine Below.drew ?_ | refine Below.drewN ?_ _ | refine below_alloc ?_ _ | refine below_blk' ?_ (by omega) _)) hb5
    clear hb5
    clear b4
    go_wp2_with fail
    go_ret
    exact ⟨rfl, b5.out⟩
  · go_wp2_with fail
    obtain ⟨w4, hw4⟩ : ∃ w4, w3.alloc (.cells (quad b) 24) = w4 := ⟨_, rfl⟩
    have b4 : Hid (Below W.heap.size W w4) := by rw [← hw4]; repeat (first | exact Below.refl _ _ | exact below_new _ | exact b3.out | assumption | refine Below.drew ?_ | refine Below.drewN ?_ _ | refine below_alloc ?_ _ | refine below_blk' ?_ (by omega) _)
    rw [hw4]
    clear hw4
    clear b3
    refine (alive_any _).mono ?_
    rintro e w5 ⟨rfl, hb5⟩
    have b5 : Hid (Below W.heap.size W w5) := below_to (by repeat (first | exact Below.refl _ _ | exact below_new _ | exact b4.out | assumption | refine Below.drew ?_ | refine Below.drewN ?_ _ | refine below_alloc ?_ _ | refine below_blk' ?_ (by omega) _)) hb5
    clear hb5
    clear b4
    go_wp2_with fail
    go_ret
    exact ⟨rfl, b5.out⟩

set_option maxRecDepth 100000 in
set_option maxHeartbeats 4000000 in
theorem reckons_32 (s t : ByteArray) (second : Bool) (W : World) (h1 : s.size = 32) (h2 : t.size = 32) : Calls Try.prog 5 #[.string s, .string t, .bool second] W fun e w' => e = .returned (.bool true) ∧ Below W.heap.size W w' := by
  have hof := hid (fun w => Of_32 s w h1)
  have hof2 := hid (fun w => Of_32 t w h2)
  have hro := hid (fun w => ref_Of s w (by omega))
  have hro2 := hid (fun w => ref_Of t w (by omega))
  have la := bytes32_lt h1
  have lb := bytes32_lt h2
  clear h1 h2
  generalize bytesNat s.data.toList = a at *
  generalize bytesNat t.data.toList = b at *
  have hc : a % pP < pP := Nat.mod_lt _ (by decide)
  have hd : b % pP < pP := Nat.mod_lt _ (by decide)
  have hA := hid (fun w => add_any a b w la lb)
  have hS := hid (fun w => sub_any a b w la lb)
  have hM := hid (fun w => mul_any a b w la lb)
  have hSA := hid (fun w => same_any a b w la lb)
  have hSE := hid (fun w => select_any second a b w la lb)
  have hI1 := hid (fun w => is_any (addN a b) ((a % pP + b % pP) % pP) w (add_lt la lb) (add_mod2 a b))
  have hI2 := hid (fun w => is_any (subN a b) ((a % pP + (pP - b % pP)) % pP) w (sub_lt la lb) (sub_mod2 la lb))
  have hI3 := hid (fun w => is_any (mulN a b) ((a % pP) * (b % pP) % pP) w (mul_lt la lb) (mm a b))
  have hI4 := hid (fun w => is_any (if second = true then b else a) (if second = true then b % pP else a % pP) w (by split <;> assumption) (by split <;> rfl))
  have hRA := hid (fun w => ref_Add (a % pP) (b % pP) w hc (Nat.le_of_lt hd))
  have hRS := hid (fun w => ref_Sub (a % pP) (b % pP) w hc (Nat.le_of_lt hd))
  have hRM := hid (fun w => ref_Mul (a % pP) (b % pP) w hc hd)
  have hEQ := eqlN (a % pP) (b % pP) hc hd
  generalize (a % pP + b % pP) % pP = x1 at *
  generalize (a % pP + (pP - b % pP)) % pP = x2 at *
  generalize (a % pP) * (b % pP) % pP = x3 at *
  generalize addN a b = y1 at *
  generalize subN a b = y2 at *
  generalize mulN a b = y3 at *
  generalize a % pP = c at *
  generalize b % pP = d at *
  generalize decide (c = d) = q at *
  clear la lb hc hd
  go_enter Try.func5, Try.ntmps5
  go_wp2_with fail
  refine (hof.out _).mono ?_
  rintro e w1 ⟨rfl, hb1⟩
  have b1 : Hid (Below W.heap.size W w1) := below_to (by repeat (first | exact Below.refl _ _ | exact below_new _ | assumption | refine Below.drew ?_ | refine Below.drewN ?_ _ | refine below_alloc ?_ _ | refine below_blk' ?_ (by omega) _)) hb1
  clear hb1
  go_wp2_with fail
  obtain ⟨w2, hw2⟩ : ∃ w2, w1.alloc (.cells (quad a) 24) = w2 := ⟨_, rfl⟩
  have kA := kept (show hget w2 (w1.heap.size) = some (.cells (quad a) 24 (0, 0)) by rw [← hw2]; clear hw2; go_simp)
  have b2 : Hid (Below W.heap.size W w2) := by rw [← hw2]; repeat (first | exact Below.refl _ _ | exact below_new _ | exact b1.out | assumption | refine Below.drew ?_ | refine Below.drewN ?_ _ | refine below_alloc ?_ _ | refine below_blk' ?_ (by omega) _)
  rw [hw2]
  clear hw2
  try clear gA lA nA mA
  try clear jA
  have jA := kA.later
  obtain ⟨gA, lA, nA, mA⟩ := kA
  clear b1
  clear jA
  generalize w1.heap.size = A at *
  refine (hof2.out _).mono ?_
  rintro e w3 ⟨rfl, hb3⟩
  have kA := Kept.on (kept (b := A) (o := .cells (quad a) 24 (0, 0)) (by go_simp)) hb3
  have b3 : Hid (Below W.heap.size W w3) := below_to (by repeat (first | exact Below.refl _ _ | exact below_new _ | exact b2.out | assumption | refine Below.drew ?_ | refine Below.drewN ?_ _ | refine below_alloc ?_ _ | refine below_blk' ?_ (by omega) _)) hb3
  clear hb3
  try clear gA lA nA mA
  obtain ⟨gA, lA, nA, mA⟩ := kA
  clear b2
  go_wp2_with fail
  obtain ⟨B, hB⟩ : ∃ b, w3.heap.size = b := ⟨_, rfl⟩
  have wB : W.heap.size ≤ B := by rw [← hB]; exact b3.out.size
  have eAB : (A = B) = False := by rw [← hB]; exact nA
  have eBA : (B = A) = False := by rw [← hB]; exact mA
  obtain ⟨w4, hw4⟩ : ∃ w4, w3.alloc (.cells (quad b) 24) = w4 := ⟨_, rfl⟩
  have kA := kept (show hget w4 (A) = some (.cells (quad a) 24 (0, 0)) by rw [← hw4]; clear hw4; go_simp)
  have kB := kept (show hget w4 (w3.heap.size) = some (.cells (quad b) 24) by rw [← hw4]; clear hw4; go_simp)
  have b4 : Hid (Below W.heap.size W w4) := by rw [← hw4]; repeat (first | exact Below.refl _ _ | exact below_new _ | exact b3.out | assumption | refine Below.drew ?_ | refine Below.drewN ?_ _ | refine below_alloc ?_ _ | refine below_blk' ?_ (by omega) _)
  rw [hw4]
  clear hw4
  try clear gA lA nA mA
  try clear jA
  have jA := kA.later
  obtain ⟨gA, lA, nA, mA⟩ := kA
  try clear gB lB nB mB
  try clear jB
  have jB := kB.later
  obtain ⟨gB, lB, nB, mB⟩ := kB
  clear b3
  rw [hB] at *
  clear hB
  refine (hro.out _).mono ?_
  rintro e w5 ⟨rfl, hb5⟩
  have kA := Kept.on (kept (b := A) (o := .cells (quad a) 24 (0, 0)) (by go_simp)) hb5
  have kB := Kept.on (kept (b := B) (o := .cells (quad b) 24 (0, 0)) (by go_simp)) hb5
  have b5 : Hid (Below W.heap.size W w5) := below_to (by repeat (first | exact Below.refl _ _ | exact below_new _ | exact b4.out | assumption | refine Below.drew ?_ | refine Below.drewN ?_ _ | refine below_alloc ?_ _ | refine below_blk' ?_ (by omega) _)) hb5
  clear hb5
  try clear gA lA nA mA
  obtain ⟨gA, lA, nA, mA⟩ := kA
  try clear gB lB nB mB
  obtain ⟨gB, lB, nB, mB⟩ := kB
  clear b4
  go_wp2_with fail
  obtain ⟨C, hC⟩ : ∃ b, w5.heap.size = b := ⟨_, rfl⟩
  have wC : W.heap.size ≤ C := by rw [← hC]; exact b5.out.size
  have eAC : (A = C) = False := by rw [← hC]; exact nA
  have eCA : (C = A) = False := by rw [← hC]; exact mA
  have eBC : (B = C) = False := by rw [← hC]; exact nB
  have eCB : (C = B) = False := by rw [← hC]; exact mB
  obtain ⟨w6, hw6⟩ : ∃ w6, w5.alloc (.cells (nine c) 30) = w6 := ⟨_, rfl⟩
  have kA := kept (show hget w6 (A) = some (.cells (quad a) 24 (0, 0)) by rw [← hw6]; clear hw6; go_simp)
  have kB := kept (show hget w6 (B) = some (.cells (quad b) 24 (0, 0)) by rw [← hw6]; clear hw6; go_simp)
  have kC := kept (show hget w6 (w5.heap.size) = some (.cells (nine c) 30) by rw [← hw6]; clear hw6; go_simp)
  have b6 : Hid (Below W.heap.size W w6) := by rw [← hw6]; repeat (first | exact Below.refl _ _ | exact below_new _ | exact b5.out | assumption | refine Below.drew ?_ | refine Below.drewN ?_ _ | refine below_alloc ?_ _ | refine below_blk' ?_ (by omega) _)
  rw [hw6]
  clear hw6
  try clear gA lA nA mA
  try clear jA
  have jA := kA.later
  obtain ⟨gA, lA, nA, mA⟩ := kA
  try clear gB lB nB mB
  try clear jB
  have jB := kB.later
  obtain ⟨gB, lB, nB, mB⟩ := kB
  try clear gC lC nC mC
  try clear jC
  have jC := kC.later
  obtain ⟨gC, lC, nC, mC⟩ := kC
  clear b5
  rw [hC] at *
  clear hC
  refine (hro2.out _).mono ?_
  rintro e w7 ⟨rfl, hb7⟩
  have kA := Kept.on (kept (b := A) (o := .cells (quad a) 24 (0, 0)) (by go_simp)) hb7
  have kB := Kept.on (kept (b := B) (o := .cells (quad b) 24 (0, 0)) (by go_simp)) hb7
  have kC := Kept.on (kept (b := C) (o := .cells (nine c) 30 (0, 0)) (by go_simp)) hb7
  have b7 : Hid (Below W.heap.size W w7) := below_to (by repeat (first | exact Below.refl _ _ | exact below_new _ | exact b6.out | assumption | refine Below.drew ?_ | refine Below.drewN ?_ _ | refine below_alloc ?_ _ | refine below_blk' ?_ (by omega) _)) hb7
  clear hb7
  try clear gA lA nA mA
  obtain ⟨gA, lA, nA, mA⟩ := kA
  try clear gB lB nB mB
  obtain ⟨gB, lB, nB, mB⟩ := kB
  try clear gC lC nC mC
  obtain ⟨gC, lC, nC, mC⟩ := kC
  clear b6
  go_upto_region 7 with (fail)
  obtain ⟨D, hD⟩ : ∃ b, w7.heap.size = b := ⟨_, rfl⟩
  have wD : W.heap.size ≤ D := by rw [← hD]; exact b7.out.size
  have eAD : (A = D) = False := by rw [← hD]; exact nA
  have eDA : (D = A) = False := by rw [← hD]; exact mA
  have eBD : (B = D) = False := by rw [← hD]; exact nB
  have eDB : (D = B) = False := by rw [← hD]; exact mB
  have eCD : (C = D) = False := by rw [← hD]; exact nC
  have eDC : (D = C) = False := by rw [← hD]; exact mC
  obtain ⟨w8, hw8⟩ : ∃ w8, w7.alloc (.cells (nine d) 30) = w8 := ⟨_, rfl⟩
  have kA := kept (show hget w8 (A) = some (.cells (quad a) 24 (0, 0)) by rw [← hw8]; clear hw8; go_simp)
  have kB := kept (show hget w8 (B) = some (.cells (quad b) 24 (0, 0)) by rw [← hw8]; clear hw8; go_simp)
  have kC := kept (show hget w8 (C) = some (.cells (nine c) 30 (0, 0)) by rw [← hw8]; clear hw8; go_simp)
  have kD := kept (show hget w8 (w7.heap.size) = some (.cells (nine d) 30) by rw [← hw8]; clear hw8; go_simp)
  have b8 : Hid (Below W.heap.size W w8) := by rw [← hw8]; repeat (first | exact Below.refl _ _ | exact below_new _ | exact b7.out | assumption | refine Below.drew ?_ | refine Below.drewN ?_ _ | refine below_alloc ?_ _ | refine below_blk' ?_ (by omega) _)
  rw [hw8]
  clear hw8
  try clear gA lA nA mA
  try clear jA
  have jA := kA.later
  obtain ⟨gA, lA, nA, mA⟩ := kA
  try clear gB lB nB mB
  try clear jB
  have jB := kB.later
  obtain ⟨gB, lB, nB, mB⟩ := kB
  try clear gC lC nC mC
  try clear jC
  have jC := kC.later
  obtain ⟨gC, lC, nC, mC⟩ := kC
  try clear gD lD nD mD
  try clear jD
  have jD := kD.later
  obtain ⟨gD, lD, nD, mD⟩ := kD
  clear b7
  rw [hD] at *
  clear hD
  cases second
  · simp only [Bool.false_eq_true, if_false, if_true] at hSE hI4
    go_wp2_with fail
    obtain ⟨F, hF⟩ : ∃ b, w8.heap.size = b := ⟨_, rfl⟩
    have wF : W.heap.size ≤ F := by rw [← hF]; exact b8.out.size
    have eAF : (A = F) = False := by rw [← hF]; exact nA
    have eFA : (F = A) = False := by rw [← hF]; exact mA
    have eBF : (B = F) = False := by rw [← hF]; exact nB
    have eFB : (F = B) = False := by rw [← hF]; exact mB
    have eCF : (C = F) = False := by rw [← hF]; exact nC
    have eFC : (F = C) = False := by rw [← hF]; exact mC
    have eDF : (D = F) = False := by rw [← hF]; exact nD
    have eFD : (F = D) = False := by rw [← hF]; exact mD
    obtain ⟨w9, hw9⟩ : ∃ w9, w8.alloc (.cells (nine c) 30) = w9 := ⟨_, rfl⟩
    have kA := kept (show hget w9 (A) = some (.cells (quad a) 24 (0, 0)) by rw [← hw9]; clear hw9; go_simp)
    have kB := kept (show hget w9 (B) = some (.cells (quad b) 24 (0, 0)) by rw [← hw9]; clear hw9; go_simp)
    have kC := kept (show hget w9 (C) = some (.cells (nine c) 30 (0, 0)) by rw [← hw9]; clear hw9; go_simp)
    have kD := kept (show hget w9 (D) = some (.cells (nine d) 30 (0, 0)) by rw [← hw9]; clear hw9; go_simp)
    have kF := kept (show hget w9 (w8.heap.size) = some (.cells (nine c) 30) by rw [← hw9]; clear hw9; go_simp)
    have b9 : Hid (Below W.heap.size W w9) := by rw [← hw9]; repeat (first | exact Below.refl _ _ | exact below_new _ | exact b8.out | assumption | refine Below.drew ?_ | refine Below.drewN ?_ _ | refine below_alloc ?_ _ | refine below_blk' ?_ (by omega) _)
    rw [hw9]
    clear hw9
    try clear gA lA nA mA
    try clear jA
    have jA := kA.later
    obtain ⟨gA, lA, nA, mA⟩ := kA
    try clear gB lB nB mB
    try clear jB
    have jB := kB.later
    obtain ⟨gB, lB, nB, mB⟩ := kB
    try clear gC lC nC mC
    try clear jC
    have jC := kC.later
    obtain ⟨gC, lC, nC, mC⟩ := kC
    try clear gD lD nD mD
    try clear jD
    have jD := kD.later
    obtain ⟨gD, lD, nD, mD⟩ := kD
    try clear gF lF nF mF
    try clear jF
    have jF := kF.later
    obtain ⟨gF, lF, nF, mF⟩ := kF
    clear b8
    rw [hF] at *
    clear hF
    refine wp_region_later (by kernel_rfl) (by kernel_rfl) ?_
    repeat ((go_big_quiet_step ((first | (go_at_call 22; with_reducible exact calls_later (hA.out _)) | (go_at_call 23; with_reducible exact calls_later (hRA.out _)) | (go_at_call 24; with_reducible exact calls_later (hS.out _)) | (go_at_call 25; with_reducible exact calls_later (hRS.out _)) | (go_at_call 26; with_reducible exact calls_later (hM.out _)) | (go_at_call 27; with_reducible exact calls_later (hRM.out _)) | (go_at_call 20; with_reducible exact calls_later (hSA.out _)) | (go_at_call 28; with_reducible exact calls_later (hSE.out _)) | (go_at_call 13; first | with_reducible exact calls_later (hI1.out _) | with_reducible exact calls_later (hI2.out _) | with_reducible exact calls_later (hI3.out _) | with_reducible exact calls_later (hI4.out _)) | (go_at_call 9; exact calls_later (alive_any _))))))
    refine wpQuiet_nil ?_
    intro wL hwL
    obtain ⟨⟨w8, hL⟩, e8⟩ := hwL
    change wL = w8 at e8
    subst e8
    have bZ := hid (below_to b9.out hL)
    clear hL
    go_wp2_with fail
    go_ret
    exact ⟨rfl, bZ.out⟩
  · simp only [Bool.false_eq_true, if_false, if_true] at hSE hI4
    go_wp2_with fail
    obtain ⟨F, hF⟩ : ∃ b, w8.heap.size = b := ⟨_, rfl⟩
    have wF : W.heap.size ≤ F := by rw [← hF]; exact b8.out.size
    have eAF : (A = F) = False := by rw [← hF]; exact nA
    have eFA : (F = A) = False := by rw [← hF]; exact mA
    have eBF : (B = F) = False := by rw [← hF]; exact nB
    have eFB : (F = B) = False := by rw [← hF]; exact mB
    have eCF : (C = F) = False := by rw [← hF]; exact nC
    have eFC : (F = C) = False := by rw [← hF]; exact mC
    have eDF : (D = F) = False := by rw [← hF]; exact nD
    have eFD : (F = D) = False := by rw [← hF]; exact mD
    obtain ⟨w9, hw9⟩ : ∃ w9, w8.alloc (.cells (nine d) 30) = w9 := ⟨_, rfl⟩
    have kA := kept (show hget w9 (A) = some (.cells (quad a) 24 (0, 0)) by rw [← hw9]; clear hw9; go_simp)
    have kB := kept (show hget w9 (B) = some (.cells (quad b) 24 (0, 0)) by rw [← hw9]; clear hw9; go_simp)
    have kC := kept (show hget w9 (C) = some (.cells (nine c) 30 (0, 0)) by rw [← hw9]; clear hw9; go_simp)
    have kD := kept (show hget w9 (D) = some (.cells (nine d) 30 (0, 0)) by rw [← hw9]; clear hw9; go_simp)
    have kF := kept (show hget w9 (w8.heap.size) = some (.cells (nine d) 30) by rw [← hw9]; clear hw9; go_simp)
    have b9 : Hid (Below W.heap.size W w9) := by rw [← hw9]; repeat (first | exact Below.refl _ _ | exact below_new _ | exact b8.out | assumption | refine Below.drew ?_ | refine Below.drewN ?_ _ | refine below_alloc ?_ _ | refine below_blk' ?_ (by omega) _)
    rw [hw9]
    clear hw9
    try clear gA lA nA mA
    try clear jA
    have jA := kA.later
    obtain ⟨gA, lA, nA, mA⟩ := kA
    try clear gB lB nB mB
    try clear jB
    have jB := kB.later
    obtain ⟨gB, lB, nB, mB⟩ := kB
    try clear gC lC nC mC
    try clear jC
    have jC := kC.later
    obtain ⟨gC, lC, nC, mC⟩ := kC
    try clear gD lD nD mD
    try clear jD
    have jD := kD.later
    obtain ⟨gD, lD, nD, mD⟩ := kD
    try clear gF lF nF mF
    try clear jF
    have jF := kF.later
    obtain ⟨gF, lF, nF, mF⟩ := kF
    clear b8
    rw [hF] at *
    clear hF
    refine wp_region_later (by kernel_rfl) (by kernel_rfl) ?_
    repeat ((go_big_quiet_step ((first | (go_at_call 22; with_reducible exact calls_later (hA.out _)) | (go_at_call 23; with_reducible exact calls_later (hRA.out _)) | (go_at_call 24; with_reducible exact calls_later (hS.out _)) | (go_at_call 25; with_reducible exact calls_later (hRS.out _)) | (go_at_call 26; with_reducible exact calls_later (hM.out _)) | (go_at_call 27; with_reducible exact calls_later (hRM.out _)) | (go_at_call 20; with_reducible exact calls_later (hSA.out _)) | (go_at_call 28; with_reducible exact calls_later (hSE.out _)) | (go_at_call 13; first | with_reducible exact calls_later (hI1.out _) | with_reducible exact calls_later (hI2.out _) | with_reducible exact calls_later (hI3.out _) | with_reducible exact calls_later (hI4.out _)) | (go_at_call 9; exact calls_later (alive_any _))))))
    refine wpQuiet_nil ?_
    intro wL hwL
    obtain ⟨⟨w8, hL⟩, e8⟩ := hwL
    change wL = w8 at e8
    subst e8
    have bZ := hid (below_to b9.out hL)
    clear hL
    go_wp2_with fail
    go_ret
    exact ⟨rfl, bZ.out⟩

end Go.Proofs.Ytoaihbmicdbaiaa
