/- The law NumLaws: for every input it returns true and leaves its arguments as they were. -/
import Derived.Test.YtoaihbmicdbaiaaO
import Derived.Test.YtoaihbmicdbaiaaNumL8
namespace Go.Proofs.Ytoaihbmicdbaiaa
open Go.RowKit DG Go.Deep
attribute [local go_sem ↓] exl_Elem exs_Elem exl_Num exs_Num
                         attribute [local go_sem] ldr_Elem str_Elem ldr_Num str_Num
attribute [local go_sem] to_quad0

set_option maxRecDepth 100000 in
set_option maxHeartbeats 8000000 in
theorem laws_32 (r s t : ByteArray) (W : World) (h1 : r.size = 32) (h2 : s.size = 32) (h3 : t.size = 32) :
    Calls Try.prog 7 #[.string r, .string s, .string t] W fun e w' => e = .returned (.bool true) ∧ Below W.heap.size W w' := by
  have ho1 := hid (fun w => Of_32 r w h1)
  have ho2 := hid (fun w => Of_32 s w h2)
  have ho3 := hid (fun w => Of_32 t w h3)
  have la := bytes32_lt h1
  have lb := bytes32_lt h2
  have lc := bytes32_lt h3
  clear h1 h2 h3
  generalize bytesNat r.data.toList = a at *
  generalize bytesNat s.data.toList = b at *
  generalize bytesNat t.data.toList = c at *
  have ly1 : (addN a b) < p2 := add_lt la lb
  have Hy1 := hid (fun w => add_any a b w la lb)
  have ly2 : (addN b a) < p2 := add_lt lb la
  have Hy2 := hid (fun w => add_any b a w lb la)
  have lm1 : (mulN a b) < p2 := mul_lt la lb
  have Hm1 := hid (fun w => mul_any a b w la lb)
  have lm2 : (mulN b a) < p2 := mul_lt lb la
  have Hm2 := hid (fun w => mul_any b a w lb la)
  have ly3 : (addN b c) < p2 := add_lt lb lc
  have Hy3 := hid (fun w => add_any b c w lb lc)
  have lz1 : (addN (addN a b) c) < p2 := add_lt ly1 lc
  have Hz1 := hid (fun w => add_any (addN a b) c w ly1 lc)
  have lz2 : (addN a (addN b c)) < p2 := add_lt la ly3
  have Hz2 := hid (fun w => add_any a (addN b c) w la ly3)
  have lm3 : (mulN b c) < p2 := mul_lt lb lc
  have Hm3 := hid (fun w => mul_any b c w lb lc)
  have lz3 : (mulN (mulN a b) c) < p2 := mul_lt lm1 lc
  have Hz3 := hid (fun w => mul_any (mulN a b) c w lm1 lc)
  have lz4 : (mulN a (mulN b c)) < p2 := mul_lt la lm3
  have Hz4 := hid (fun w => mul_any a (mulN b c) w la lm3)
  have lz5 : (mulN a (addN b c)) < p2 := mul_lt la ly3
  have Hz5 := hid (fun w => mul_any a (addN b c) w la ly3)
  have lm4 : (mulN a c) < p2 := mul_lt la lc
  have Hm4 := hid (fun w => mul_any a c w la lc)
  have lz6 : (addN (mulN a b) (mulN a c)) < p2 := add_lt lm1 lm4
  have Hz6 := hid (fun w => add_any (mulN a b) (mulN a c) w lm1 lm4)
  have ls1 : (subN a b) < p2 := sub_lt la lb
  have Hs1 := hid (fun w => sub_any a b w la lb)
  have ls2 : (addN (subN a b) b) < p2 := add_lt ls1 lb
  have Hs2 := hid (fun w => add_any (subN a b) b w ls1 lb)
  have ls3 : (subN a a) < p2 := sub_lt la la
  have Hs3 := hid (fun w => sub_any a a w la la)
  have liv : (invN a) < p2 := raised_lt la
  have Hiv := hid (fun w => inv_any a w la)
  have lai : (mulN a (invN a)) < p2 := mul_lt la liv
  have Hai := hid (fun w => mul_any a (invN a) w la liv)
  have hS0 := fun w => same_any (addN a b) (addN b a) w ly1 ly2
  rw [show decide ((addN a b) % pP = (addN b a) % pP) = true from decide_eq_true (la1 _ _)] at hS0
  have HS0 := hid hS0
  have hS1 := fun w => same_any (mulN a b) (mulN b a) w lm1 lm2
  rw [show decide ((mulN a b) % pP = (mulN b a) % pP) = true from decide_eq_true (la2 _ _)] at hS1
  have HS1 := hid hS1
  have hS2 := fun w => same_any (addN (addN a b) c) (addN a (addN b c)) w lz1 lz2
  rw [show decide ((addN (addN a b) c) % pP = (addN a (addN b c)) % pP) = true from decide_eq_true (la3 _ _ _)] at hS2
  have HS2 := hid hS2
  have hS3 := fun w => same_any (mulN (mulN a b) c) (mulN a (mulN b c)) w lz3 lz4
  rw [show decide ((mulN (mulN a b) c) % pP = (mulN a (mulN b c)) % pP) = true from decide_eq_true (la4 _ _ _)] at hS3
  have HS3 := hid hS3
  have hS4 := fun w => same_any (mulN a (addN b c)) (addN (mulN a b) (mulN a c)) w lz5 lz6
  rw [show decide ((mulN a (addN b c)) % pP = (addN (mulN a b) (mulN a c)) % pP) = true from decide_eq_true (la5 _ _ _)] at hS4
  have HS4 := hid hS4
  have hS5 := fun w => same_any (addN (subN a b) b) a w ls2 la
  rw [show decide ((addN (subN a b) b) % pP = a % pP) = true from decide_eq_true (la6 la lb)] at hS5
  have HS5 := hid hS5
  have hS6 := fun w => same_any (subN a a) 0 w ls3 (by decide)
  rw [show decide ((subN a a) % pP = 0 % pP) = true from decide_eq_true (la7 la)] at hS6
  have HS6 := hid hS6
  have HS7 := hid (fun w => same_any a 0 w la (by decide))
  have hS8 := fun w => same_any (mulN a (invN a)) 1 w lai (by decide)
  rw [la8 a] at hS8
  have HS8 := hid hS8
  have HONE := hid (fun w => small_any 1 w (by decide))
  have HRO := hid (fun w => roots_any a w la)
  clear hS0 hS1 hS2 hS3 hS4 hS5 hS6 hS8
  generalize decide (a % pP = 0 % pP) = q at *
  generalize (addN (addN a b) c) = z1 at *
  generalize (addN a (addN b c)) = z2 at *
  generalize (mulN (mulN a b) c) = z3 at *
  generalize (mulN a (mulN b c)) = z4 at *
  generalize (mulN a (addN b c)) = z5 at *
  generalize (addN (mulN a b) (mulN a c)) = z6 at *
  generalize (addN (subN a b) b) = s2 at *
  generalize (mulN a (invN a)) = ai at *
  generalize (addN a b) = y1 at *
  generalize (addN b a) = y2 at *
  generalize (mulN a b) = m1 at *
  generalize (mulN b a) = m2 at *
  generalize (addN b c) = y3 at *
  generalize (mulN b c) = m3 at *
  generalize (mulN a c) = m4 at *
  generalize (subN a b) = s1 at *
  generalize (subN a a) = s3 at *
  generalize (invN a) = iv at *
  clear ly1 ly2 lm1 lm2 ly3 lz1 lz2 lm3 lz3 lz4 lz5 lm4 lz6 ls1 ls2 ls3 liv lai la lb lc
  go_enter Try.func7, Try.ntmps7
  go_wp2_with fail
  refine (ho1.out _).mono ?_
  rintro e w1 ⟨rfl, hb1⟩
  have b1 : Hid (Below W.heap.size W w1) := below_to (by repeat (first | exact Below.refl _ _ | exact below_new _ | assumption | refine Below.drew ?_ | refine Below.drewN ?_ _ | refine below_alloc ?_ _ | refine below_blk' ?_ (by omega) _)) hb1
  clear hb1
  go_wp2_with fail
  have b1' := b1
  obtain ⟨A, hA⟩ : ∃ b, w1.heap.size = b := ⟨_, rfl⟩
  have wA : W.heap.size ≤ A := by rw [← hA]; exact b1.out.size
  obtain ⟨w2, hw2⟩ : ∃ w2, w1.alloc (.cells (quad a) 24) = w2 := ⟨_, rfl⟩
  have kA := kept (show hget w2 (w1.heap.size) = some (.cells (quad a) 24) by rw [← hw2]; clear hw2; go_simp)
  have b2 : Hid (Below W.heap.size W w2) := by rw [← hw2]; repeat (first | exact Below.refl _ _ | exact below_new _ | exact b1.out | assumption | refine Below.drew ?_ | refine Below.drewN ?_ _ | refine below_alloc ?_ _ | refine below_blk' ?_ (by omega) _)
  rw [hw2]
  clear hw2
  try clear gA lA nA mA
  try clear jA
  have jA := kA.later
  obtain ⟨gA, lA, nA, mA⟩ := kA
  clear b1
  rw [hA] at *
  clear hA
  clear jA
  refine (ho2.out _).mono ?_
  rintro e w3 ⟨rfl, hb3⟩
  have kA := Kept.on (kept (b := A) (o := .cells (quad a) 24 (0, 0)) (by go_simp)) hb3
  have b3 : Hid (Below W.heap.size W w3) := below_to (by repeat (first | exact Below.refl _ _ | exact below_new _ | exact b2.out | assumption | refine Below.drew ?_ | refine Below.drewN ?_ _ | refine below_alloc ?_ _ | refine below_blk' ?_ (by omega) _)) hb3
  clear hb3
  try clear gA lA nA mA
  obtain ⟨gA, lA, nA, mA⟩ := kA
  clear b2
  go_wp2_with fail
  obtain ⟨B, hB⟩ : ∃ b, w3.heap.size = b := ⟨_, rfl⟩
  have wB : W.heap.size ≤ B := by rw [← hB]; exact b3.out.size
  have eAB : (A = B) = False := by rw [← hB]; exact nA
  have eBA : (B = A) = False := by rw [← hB]; exact mA
  obtain ⟨w4, hw4⟩ : ∃ w4, w3.alloc (.cells (quad b) 24) = w4 := ⟨_, rfl⟩
  have kA := kept (show hget w4 (A) = some (.cells (quad a) 24 (0, 0)) by rw [← hw4]; clear hw4; go_simp)
  have kB := kept (show hget w4 (w3.heap.size) = some (.cells (quad b) 24) by rw [← hw4]; clear hw4; go_simp)
  have b4 : Hid (Below W.heap.size W w4) := by rw [← hw4]; repeat (first | exact Below.refl _ _ | exact below_new _ | exact b3.out | assumption | refine Below.drew ?_ | refine Below.drewN ?_ _ | refine below_alloc ?_ _ | refine below_blk' ?_ (by omega) _)
  rw [hw4]
  clear hw4
  try clear gA lA nA mA
  try clear jA
  have jA := kA.later
  obtain ⟨gA, lA, nA, mA⟩ := kA
  try clear gB lB nB mB
  try clear jB
  have jB := kB.later
  obtain ⟨gB, lB, nB, mB⟩ := kB
  clear b3
  rw [hB] at *
  clear hB
  clear jA jB
  refine (ho3.out _).mono ?_
  rintro e w5 ⟨rfl, hb5⟩
  have kA := Kept.on (kept (b := A) (o := .cells (quad a) 24 (0, 0)) (by go_simp)) hb5
  have kB := Kept.on (kept (b := B) (o := .cells (quad b) 24 (0, 0)) (by go_simp)) hb5
  have b5 : Hid (Below W.heap.size W w5) := below_to (by repeat (first | exact Below.refl _ _ | exact below_new _ | exact b4.out | assumption | refine Below.drew ?_ | refine Below.drewN ?_ _ | refine below_alloc ?_ _ | refine below_blk' ?_ (by omega) _)) hb5
  clear hb5
  try clear gA lA nA mA
  obtain ⟨gA, lA, nA, mA⟩ := kA
  try clear gB lB nB mB
  obtain ⟨gB, lB, nB, mB⟩ := kB
  clear b4
  go_wp2_with fail
  have xA : (A = w5.heap.size + 1) = False := eq_false (by omega)
  have xB : (B = w5.heap.size + 1) = False := eq_false (by omega)
  have yA : (w5.heap.size + 1 = A) = False := eq_false (by omega)
  have yB : (w5.heap.size + 1 = B) = False := eq_false (by omega)
  have eAC := nA
  have eBC := nB
  have eCA := mA
  have eCB := mB
  have wC : W.heap.size ≤ w5.heap.size := b5.out.size
  obtain ⟨w6, hw6⟩ : ∃ w6, w5.alloc (.cells (quad c) 24) = w6 := ⟨_, rfl⟩
  have kA := kept (show hget w6 (A) = some (.cells (quad a) 24 (0, 0)) by rw [← hw6]; clear hw6; go_simp)
  have kB := kept (show hget w6 (B) = some (.cells (quad b) 24 (0, 0)) by rw [← hw6]; clear hw6; go_simp)
  have kC := kept (show hget w6 (w5.heap.size) = some (.cells (quad c) 24 (0, 0)) by rw [← hw6]; clear hw6; go_simp)
  have b6 : Hid (Below W.heap.size W w6) := by rw [← hw6]; repeat (first | exact Below.refl _ _ | exact below_new _ | exact b5.out | assumption | refine Below.drew ?_ | refine Below.drewN ?_ _ | refine below_alloc ?_ _ | refine below_blk' ?_ (by omega) _)
  rw [hw6]
  clear hw6
  try clear gA lA nA mA
  try clear jA
  have jA := kA.later
  obtain ⟨gA, lA, nA, mA⟩ := kA
  try clear gB lB nB mB
  try clear jB
  have jB := kB.later
  obtain ⟨gB, lB, nB, mB⟩ := kB
  try clear gC lC nC mC
  try clear jC
  have jC := kC.later
  obtain ⟨gC, lC, nC, mC⟩ := kC
  clear b5
  generalize w5.heap.size = C at *
  clear jA jB jC
  have hq : (q == !q) = false := by cases q <;> rfl
  obtain ⟨w8, hw8⟩ : ∃ w8, blk (w6.alloc (.cells (quad 0) 24)) (C + 1) (.cells (quad 0) 24 (0, 0)) = w8 := ⟨_, rfl⟩
  have kA := kept (show hget w8 (A) = some (.cells (quad a) 24 (0, 0)) by rw [← hw8]; clear hw8; go_simp)
  have kB := kept (show hget w8 (B) = some (.cells (quad b) 24 (0, 0)) by rw [← hw8]; clear hw8; go_simp)
  have kC := kept (show hget w8 (C) = some (.cells (quad c) 24 (0, 0)) by rw [← hw8]; clear hw8; go_simp)
  have kZ := kept (show hget w8 (C + 1) = some (.cells (quad 0) 24 (0, 0)) by rw [← hw8]; clear hw8; go_simp)
  have b8 : Hid (Below W.heap.size W w8) := by rw [← hw8]; repeat (first | exact Below.refl _ _ | exact below_new _ | exact b6.out | assumption | refine Below.drew ?_ | refine Below.drewN ?_ _ | refine below_alloc ?_ _ | refine below_blk' ?_ (by omega) _)
  rw [hw8]
  clear hw8
  try clear gA lA nA mA
  try clear jA
  have jA := kA.later
  obtain ⟨gA, lA, nA, mA⟩ := kA
  try clear gB lB nB mB
  try clear jB
  have jB := kB.later
  obtain ⟨gB, lB, nB, mB⟩ := kB
  try clear gC lC nC mC
  try clear jC
  have jC := kC.later
  obtain ⟨gC, lC, nC, mC⟩ := kC
  try clear gZ lZ nZ mZ
  try clear jZ
  have jZ := kZ.later
  obtain ⟨gZ, lZ, nZ, mZ⟩ := kZ
  clear b6
  refine wp_region_later (by kernel_rfl) (by kernel_rfl) ?_
  simp only [List.append_eq, List.cons_append, List.nil_append]
  repeat ((go_big_quiet_step ((first | (go_at_call 22; first | with_reducible exact calls_later (Hy1.out _) | with_reducible exact calls_later (Hy2.out _) | with_reducible exact calls_later (Hy3.out _) | with_reducible exact calls_later (Hz1.out _) | with_reducible exact calls_later (Hz2.out _) | with_reducible exact calls_later (Hz6.out _) | with_reducible exact calls_later (Hs2.out _)) | (go_at_call 26; first | with_reducible exact calls_later (Hm1.out _) | with_reducible exact calls_later (Hm2.out _) | with_reducible exact calls_later (Hm3.out _) | with_reducible exact calls_later (Hz3.out _) | with_reducible exact calls_later (Hz4.out _) | with_reducible exact calls_later (Hz5.out _) | with_reducible exact calls_later (Hm4.out _) | with_reducible exact calls_later (Hai.out _)) | (go_at_call 24; first | with_reducible exact calls_later (Hs1.out _) | with_reducible exact calls_later (Hs3.out _)) | (go_at_call 14; first | with_reducible exact calls_later (Hiv.out _)) | (go_at_call 18; first | with_reducible exact calls_later (HONE.out _)) | (go_at_call 29; first | with_reducible exact calls_later (HRO.out _)) | (go_at_call 20; first | with_reducible exact calls_later (HS0.out _) | with_reducible exact calls_later (HS1.out _) | with_reducible exact calls_later (HS2.out _) | with_reducible exact calls_later (HS3.out _) | with_reducible exact calls_later (HS4.out _) | with_reducible exact calls_later (HS5.out _) | with_reducible exact calls_later (HS6.out _) | with_reducible exact calls_later (HS7.out _) | with_reducible exact calls_later (HS8.out _)) | (go_at_call 9; exact calls_later (alive_any _))))))
  refine wpQuiet_nil ?_
  intro wL hwL
  obtain ⟨⟨w8, hL⟩, e8⟩ := hwL
  change wL = w8 at e8
  subst e8
  have bL := hid (below_to b8.out hL)
  have kA : hget wL A = _ := jA ⟨_, hL⟩
  have kB : hget wL B = _ := jB ⟨_, hL⟩
  have kC : hget wL C = _ := jC ⟨_, hL⟩
  have kZ : hget wL (C + 1) = _ := jZ ⟨_, hL⟩
  clear hL gA lA nA mA gB lB nB mB gC lC nC mC gZ lZ nZ mZ jA jB jC jZ
  obtain ⟨gA, lA, nA, mA⟩ := kept kA
  obtain ⟨gB, lB, nB, mB⟩ := kept kB
  obtain ⟨gC, lC, nC, mC⟩ := kept kC
  obtain ⟨gZ, lZ, nZ, mZ⟩ := kept kZ
  go_wp2_with fail
  obtain ⟨w9, hw9⟩ : ∃ w9, wL = w9 := ⟨_, rfl⟩
  have kA := kept (show hget w9 (A) = some (.cells (quad a) 24 (0, 0)) by rw [← hw9]; clear hw9; go_simp)
  have kB := kept (show hget w9 (B) = some (.cells (quad b) 24 (0, 0)) by rw [← hw9]; clear hw9; go_simp)
  have kC := kept (show hget w9 (C) = some (.cells (quad c) 24 (0, 0)) by rw [← hw9]; clear hw9; go_simp)
  have kZ := kept (show hget w9 (C + 1) = some (.cells (quad 0) 24 (0, 0)) by rw [← hw9]; clear hw9; go_simp)
  have b9 : Hid (Below W.heap.size W w9) := by rw [← hw9]; repeat (first | exact Below.refl _ _ | exact below_new _ | exact bL.out | assumption | refine Below.drew ?_ | refine Below.drewN ?_ _ | refine below_alloc ?_ _ | refine below_blk' ?_ (by omega) _)
  rw [hw9]
  clear hw9
  try clear gA lA nA mA
  try clear jA
  have jA := kA.later
  obtain ⟨gA, lA, nA, mA⟩ := kA
  try clear gB lB nB mB
  try clear jB
  have jB := kB.later
  obtain ⟨gB, lB, nB, mB⟩ := kB
  try clear gC lC nC mC
  try clear jC
  have jC := kC.later
  obtain ⟨gC, lC, nC, mC⟩ := kC
  try clear gZ lZ nZ mZ
  try clear jZ
  have jZ := kZ.later
  obtain ⟨gZ, lZ, nZ, mZ⟩ := kZ
  clear bL
  refine wp_region_later (by kernel_rfl) (by kernel_rfl) ?_
  repeat ((go_big_quiet_step ((first | (go_at_call 22; first | with_reducible exact calls_later (Hy1.out _) | with_reducible exact calls_later (Hy2.out _) | with_reducible exact calls_later (Hy3.out _) | with_reducible exact calls_later (Hz1.out _) | with_reducible exact calls_later (Hz2.out _) | with_reducible exact calls_later (Hz6.out _) | with_reducible exact calls_later (Hs2.out _)) | (go_at_call 26; first | with_reducible exact calls_later (Hm1.out _) | with_reducible exact calls_later (Hm2.out _) | with_reducible exact calls_later (Hm3.out _) | with_reducible exact calls_later (Hz3.out _) | with_reducible exact calls_later (Hz4.out _) | with_reducible exact calls_later (Hz5.out _) | with_reducible exact calls_later (Hm4.out _) | with_reducible exact calls_later (Hai.out _)) | (go_at_call 24; first | with_reducible exact calls_later (Hs1.out _) | with_reducible exact calls_later (Hs3.out _)) | (go_at_call 14; first | with_reducible exact calls_later (Hiv.out _)) | (go_at_call 18; first | with_reducible exact calls_later (HONE.out _)) | (go_at_call 29; first | with_reducible exact calls_later (HRO.out _)) | (go_at_call 20; first | with_reducible exact calls_later (HS0.out _) | with_reducible exact calls_later (HS1.out _) | with_reducible exact calls_later (HS2.out _) | with_reducible exact calls_later (HS3.out _) | with_reducible exact calls_later (HS4.out _) | with_reducible exact calls_later (HS5.out _) | with_reducible exact calls_later (HS6.out _) | with_reducible exact calls_later (HS7.out _) | with_reducible exact calls_later (HS8.out _)) | (go_at_call 9; exact calls_later (alive_any _))))))
  refine wpQuiet_nil ?_
  intro wL hwL
  obtain ⟨⟨w8, hL⟩, e8⟩ := hwL
  change wL = w8 at e8
  subst e8
  have bM := hid (below_to b9.out hL)
  have kA : hget wL A = _ := jA ⟨_, hL⟩
  clear hL gA lA nA mA jA jB jC jZ
  obtain ⟨gA, lA, nA, mA⟩ := kept kA
  go_wp2_with fail
  refine (HRO.out _).mono ?_
  rintro e wR ⟨rfl, hbR⟩
  have bR : Hid (Below W.heap.size W wR) := below_to (by exact bM.out) hbR
  go_wp2_with fail
  refine (alive_any _).mono ?_
  rintro e wS ⟨rfl, hbS⟩
  have bS : Hid (Below W.heap.size W wS) := below_to (by exact bR.out) hbS
  go_wp2_with fail
  go_ret
  exact ⟨rfl, bS.out⟩

namespace numLaws
open Go.ChangeShapes Go.WideShapes Go.ChangeAt Go.RowKit
open Go.ChangeMaps (open_string shut_string)
theorem own : ownKnob Try.prog.godebug = none := by kernel_rfl
theorem laidOut : laidOutB Try.prog = true := by kernel_rfl
set_option maxRecDepth 100000 in
theorem lifted (os : Os) (started : os.Started) (H : Type) (enc : TypeId × Value → H) :
    ReturnsInHanded {} Try.checked os 7 .any (Rows.numLawsSpec.pre6 enc Try.prog Try.f7 Rows.numLawsRow.domain false) (Rows.numLawsSpec.post enc Try.prog Try.f7 false true false false) := by
  refine returnsInHanded_of_change (C := Try.checked) own started (by kernel_rfl) Try.func7
    (ChangeSpec.witness6 (enc := enc) (C := Try.checked) false ⟨#[], #[.string ByteArray.empty, .string ByteArray.empty, .string ByteArray.empty], []⟩ 8 (by kernel_rfl) (by kernel_rfl) (by kernel_rfl) (by kernel_rfl)) ?_
  intro W base args ds gs before hval0 hW hcnd _
  have hval : ∀ (j : Nat) t v, Try.f7.params[j]? = some t → args[j]? = some v → Value.okWide Try.prog W .any base t v := hval0
  have hW' := hW
  obtain ⟨p, q, hA0, hV, rfl, hfz, hnd⟩ := hW
  have hA : DataW.TrodAll enc Try.prog W 0 (fun _ => true) true Try.f7.params.toList args.toList ds p := hA0
  rw [Try.params7] at hA hval
  obtain ⟨v0, vs0, d0, ds0, p0, q0, hargs, rfl, rfl, h0, r0⟩ := trodAll_cons hA
  obtain ⟨v1, vs1, d1, ds1, p1, q1, rfl, rfl, rfl, h1, r1⟩ := trodAll_cons r0
  obtain ⟨v2, vs2, d2, ds2, p2, q2, rfl, rfl, rfl, h2, r2⟩ := trodAll_cons r1
  obtain ⟨rfl, rfl, rfl⟩ := trodAll_nil r2
  obtain rfl : args = #[v0, v1, v2] := by cases args; simp_all
  obtain ⟨rfl, rfl⟩ := trodVars_none hV
  have k0 := h0
  have lt0 : ∀ x ∈ p0, x.block < W.heap.size := by obtain ⟨m, hm⟩ := k0; exact DataW.trod_lt m _ _ _ hm
  obtain ⟨a0, rfl, rfl, rfl, w0⟩ := open_string Try.underlying9 (hval 0 9 v0 rfl rfl) h0
  have k1 := h1
  have lt1 : ∀ x ∈ p1, x.block < W.heap.size := by obtain ⟨m, hm⟩ := k1; exact DataW.trod_lt m _ _ _ hm
  obtain ⟨a1, rfl, rfl, rfl, w1⟩ := open_string Try.underlying9 (hval 1 9 v1 rfl rfl) h1
  have k2 := h2
  have lt2 : ∀ x ∈ p2, x.block < W.heap.size := by obtain ⟨m, hm⟩ := k2; exact DataW.trod_lt m _ _ _ hm
  obtain ⟨a2, rfl, rfl, rfl, w2⟩ := open_string Try.underlying9 (hval 2 9 v2 rfl rfl) h2
  clear hA0 hval0
  refine Calls.mono (R := fun e w' => e = .returned (.bool true) ∧ Below W.heap.size W w') ?_ fun e W' ⟨he, bel⟩ => ?_
  · by_cases h1 : a0.size = 32 ∧ a1.size = 32 ∧ a2.size = 32
    · exact laws_32 a0 a1 a2 W h1.1 h1.2.1 h1.2.2
    · exact laws_no a0 a1 a2 W w0 w1 w2 (by omega)
  subst he
  exact ⟨_, rfl, _, _, _, [], _, [], hW', trodAll_mk1 (shut_bool Try.underlying4 _), (trodAll_cons_mk (Below.trod laidOut (by kernel_rfl) (of_decide_eq_true (by kernel_rfl)) k0 bel lt0) (trodAll_cons_mk (Below.trod laidOut (by kernel_rfl) (of_decide_eq_true (by kernel_rfl)) k1 bel lt1) (trodAll_cons_mk (Below.trod laidOut (by kernel_rfl) (of_decide_eq_true (by kernel_rfl)) k2 bel lt2) trodAll_mk0))), rfl, bel.frame _, fun h => by cases h⟩

theorem over : Rows.numLawsRow.holds Try.pinned (OpenSpec.ofChange Rows.numLawsSpec) :=
  OpenClaim.holds_of_wide 7 Try.f7 rfl rfl rfl rfl rfl rfl rfl ⟨rfl, rfl, rfl, rfl, rfl⟩ rfl rfl rfl rfl rfl (by kernel_rfl) Try.func7 (by kernel_rfl)
    (of_decide_eq_true (by kernel_rfl)) (by unfold Func.isWrapper; first | (rw [if_pos (by decide +kernel)]; kernel_rfl) | (rw [if_neg (by decide +kernel)]; exact ⟨rfl, rfl⟩))
    (fun os started H enc _ => lifted os started H enc)
end numLaws
/-- The given statement. -/
theorem numLaws_proved : Rows.NumLawsSaid := numLaws.over
#print axioms numLaws_proved

end Go.Proofs.Ytoaihbmicdbaiaa
