/- The law NumLaws: the walk. -/
import Derived.Test.YtoaihbmicdbaiaaNumL2
import Derived.Test.YtoaihbmicdbaiaaNumN2
namespace Go.Proofs.Ytoaihbmicdbaiaa
open Go.RowKit DG
attribute [local go_sem ↓] exl_Elem exs_Elem exl_Num exs_Num
                 attribute [local go_sem] ldr_Elem str_Elem ldr_Num str_Num
attribute [local go_sem] to_quad0

/-- Root, with its value named. -/
theorem root_v (a : Nat) (odd : Bool) (w : World) (ha : a < p2) : Calls Try.prog 11 #[.agg (quad a), .bool odd] w fun e w' => e = .returned (.tuple #[.agg (quad (rootV a odd)), .bool (rootOk a odd)]) ∧ Below w.heap.size w w' := root_any a odd w ha

set_option maxHeartbeats 4000000 in
/-- Just one of a number and twice it has roots: the three cases as the program reckons. -/
theorem roots_any (a : Nat) (W : World) (ha : a < p2) : Calls Try.prog 29 #[.agg (quad a)] W fun e w' => e = .returned (.bool true) ∧ Below W.heap.size W w' := by
  have lb := add_lt ha ha
  have hA := hid (fun w => add_any a a w ha ha)
  have hR1 := hid (fun w => root_v a false w ha)
  have hR2 := hid (fun w => root_v a true w ha)
  have hR3 := hid (fun w => root_v (addN a a) false w lb)
  have lp := rootV_lt ha false
  have lq := rootV_lt ha true
  have lu := rootV_lt lb false
  have hS0 := fun w => same_any a 0 w ha (by decide)
  have hSp := fun w => same_any (rootV a false) 0 w lp (by decide)
  have hMp := hid (fun w => mul_any (rootV a false) (rootV a false) w lp lp)
  have hMq := hid (fun w => mul_any (rootV a true) (rootV a true) w lq lq)
  have hMu := hid (fun w => mul_any (rootV (addN a a) false) (rootV (addN a a) false) w lu lu)
  have hApq := hid (fun w => add_any (rootV a false) (rootV a true) w lp lq)
  have hS1 := fun w => same_any (mulN (rootV a false) (rootV a false)) a w (mul_lt lp lp) ha
  have hS2 := fun w => same_any (mulN (rootV a true) (rootV a true)) a w (mul_lt lq lq) ha
  have hS3 := fun w => same_any (addN (rootV a false) (rootV a true)) 0 w (add_lt lp lq) (by decide)
  have hS4 := fun w => same_any (mulN (rootV (addN a a) false) (rootV (addN a a) false)) (addN a a) w (mul_lt lu lu) lb
  have hO1 := fun w => odd_any (rootV a false) w lp
  have hO2 := fun w => odd_any (rootV a true) w lq
  have hO3 := fun w => odd_any (rootV (addN a a) false) w lu
  by_cases h0 : a % pP = 0
  · have k1 : rootOk a false = true := ok_nought ha false h0
    have k2 : rootOk a true = false := ok_nought ha true h0
    have k3 : rootOk (addN a a) false = true := ok_nought lb false (twice_nought h0)
    have e0 : decide (a % pP = 0 % pP) = true := decide_eq_true (by rw [h0, zmod])
    have e1 : decide (rootV a false % pP = 0 % pP) = true := decide_eq_true (v_nought ha false h0)
    rw [k1] at hR1
    rw [k2] at hR2
    rw [k3] at hR3
    rw [e0] at hS0
    rw [e1] at hSp
    have HS0 := hid hS0
    have HSp := hid hSp
    clear hS0 hSp hMp hMq hMu hApq hS1 hS2 hS3 hS4 hO1 hO2 hO3 lp lq lu k1 k2 k3 e0 e1 h0
    generalize rootV a false = p at *
    generalize rootV a true = q at *
    generalize rootV (addN a a) false = u at *
    generalize addN a a = b at *
    clear lb ha
    go_enter Try.func29, Try.ntmps29
    go_wp2_with fail
    obtain ⟨w2, hw2⟩ : ∃ w2, blk ((W.alloc (.cells (quad a) 24)).alloc (.cells (quad 0) 24)) (W.heap.size + 1) (.cells (quad 0) 24 (0, 0)) = w2 := ⟨_, rfl⟩
    have kA := kept (show hget w2 (W.heap.size) = some (.cells (quad a) 24 (0, 0)) by rw [← hw2]; clear hw2; go_simp)
    have kZ := kept (show hget w2 (W.heap.size + 1) = some (.cells (quad 0) 24 (0, 0)) by rw [← hw2]; clear hw2; go_simp)
    have b2 : Hid (Below W.heap.size W w2) := by rw [← hw2]; repeat (first | exact Below.refl _ _ | exact below_new _ | assumption | refine Below.drew ?_ | refine Below.drewN ?_ _ | refine below_alloc ?_ _ | refine below_blk' ?_ (by omega) _)
    rw [hw2]
    clear hw2
    try clear gA lA nA mA
    try clear jA
    have jA := kA.later
    obtain ⟨gA, lA, nA, mA⟩ := kA
    try clear gZ lZ nZ mZ
    try clear jZ
    have jZ := kZ.later
    obtain ⟨gZ, lZ, nZ, mZ⟩ := kZ
    clear jA jZ
    refine (hA.out _).mono ?_
    rintro e w3 ⟨rfl, hb3⟩
    have kA := Kept.on (kept (b := W.heap.size) (o := .cells (quad a) 24 (0, 0)) (by go_simp)) hb3
    have kZ := Kept.on (kept (b := W.heap.size + 1) (o := .cells (quad 0) 24 (0, 0)) (by go_simp)) hb3
    have b3 : Hid (Below W.heap.size W w3) := below_to (by repeat (first | exact Below.refl _ _ | exact below_new _ | exact b2.out | assumption | refine Below.drew ?_ | refine Below.drewN ?_ _ | refine below_alloc ?_ _ | refine below_blk' ?_ (by omega) _)) hb3
    clear hb3
    try clear gA lA nA mA
    obtain ⟨gA, lA, nA, mA⟩ := kA
    try clear gZ lZ nZ mZ
    obtain ⟨gZ, lZ, nZ, mZ⟩ := kZ
    clear b2
    go_wp2_with fail
    obtain ⟨B, hB⟩ : ∃ b, w3.heap.size = b := ⟨_, rfl⟩
    have wB : W.heap.size ≤ B := by rw [← hB]; exact b3.out.size
    have eAB : (W.heap.size = B) = False := by rw [← hB]; exact nA
    have eBA : (B = W.heap.size) = False := by rw [← hB]; exact mA
    have eZB : (W.heap.size + 1 = B) = False := by rw [← hB]; exact nZ
    have eBZ : (B = W.heap.size + 1) = False := by rw [← hB]; exact mZ
    obtain ⟨w4, hw4⟩ : ∃ w4, w3.alloc (.cells (quad b) 24) = w4 := ⟨_, rfl⟩
    have kA := kept (show hget w4 (W.heap.size) = some (.cells (quad a) 24 (0, 0)) by rw [← hw4]; clear hw4; go_simp)
    have kZ := kept (show hget w4 (W.heap.size + 1) = some (.cells (quad 0) 24 (0, 0)) by rw [← hw4]; clear hw4; go_simp)
    have kB := kept (show hget w4 (w3.heap.size) = some (.cells (quad b) 24) by rw [← hw4]; clear hw4; go_simp)
    have b4 : Hid (Below W.heap.size W w4) := by rw [← hw4]; repeat (first | exact Below.refl _ _ | exact below_new _ | exact b3.out | assumption | refine Below.drew ?_ | refine Below.drewN ?_ _ | refine below_alloc ?_ _ | refine below_blk' ?_ (by omega) _)
    rw [hw4]
    clear hw4
    try clear gA lA nA mA
    try clear jA
    have jA := kA.later
    obtain ⟨gA, lA, nA, mA⟩ := kA
    try clear gZ lZ nZ mZ
    try clear jZ
    have jZ := kZ.later
    obtain ⟨gZ, lZ, nZ, mZ⟩ := kZ
    try clear gB lB nB mB
    try clear jB
    have jB := kB.later
    obtain ⟨gB, lB, nB, mB⟩ := kB
    clear b3
    rw [hB] at *
    clear hB
    clear jA jZ jB
    refine (hR1.out _).mono ?_
    rintro e w5 ⟨rfl, hb5⟩
    have kA := Kept.on (kept (b := W.heap.size) (o := .cells (quad a) 24 (0, 0)) (by go_simp)) hb5
    have kZ := Kept.on (kept (b := W.heap.size + 1) (o := .cells (quad 0) 24 (0, 0)) (by go_simp)) hb5
    have kB := Kept.on (kept (b := B) (o := .cells (quad b) 24 (0, 0)) (by go_simp)) hb5
    have b5 : Hid (Below W.heap.size W w5) := below_to (by repeat (first | exact Below.refl _ _ | exact below_new _ | exact b4.out | assumption | refine Below.drew ?_ | refine Below.drewN ?_ _ | refine below_alloc ?_ _ | refine below_blk' ?_ (by omega) _)) hb5
    clear hb5
    try clear gA lA nA mA
    obtain ⟨gA, lA, nA, mA⟩ := kA
    try clear gZ lZ nZ mZ
    obtain ⟨gZ, lZ, nZ, mZ⟩ := kZ
    try clear gB lB nB mB
    obtain ⟨gB, lB, nB, mB⟩ := kB
    clear b4
    go_wp2_with fail
    obtain ⟨P, hP⟩ : ∃ b, w5.heap.size = b := ⟨_, rfl⟩
    have wP : W.heap.size ≤ P := by rw [← hP]; exact b5.out.size
    have eAP : (W.heap.size = P) = False := by rw [← hP]; exact nA
    have ePA : (P = W.heap.size) = False := by rw [← hP]; exact mA
    have eZP : (W.heap.size + 1 = P) = False := by rw [← hP]; exact nZ
    have ePZ : (P = W.heap.size + 1) = False := by rw [← hP]; exact mZ
    have eBP : (B = P) = False := by rw [← hP]; exact nB
    have ePB : (P = B) = False := by rw [← hP]; exact mB
    obtain ⟨w6, hw6⟩ : ∃ w6, w5.alloc (.cells (quad p) 24) = w6 := ⟨_, rfl⟩
    have kA := kept (show hget w6 (W.heap.size) = some (.cells (quad a) 24 (0, 0)) by rw [← hw6]; clear hw6; go_simp)
    have kZ := kept (show hget w6 (W.heap.size + 1) = some (.cells (quad 0) 24 (0, 0)) by rw [← hw6]; clear hw6; go_simp)
    have kB := kept (show hget w6 (B) = some (.cells (quad b) 24 (0, 0)) by rw [← hw6]; clear hw6; go_simp)
    have kP := kept (show hget w6 (w5.heap.size) = some (.cells (quad p) 24) by rw [← hw6]; clear hw6; go_simp)
    have b6 : Hid (Below W.heap.size W w6) := by rw [← hw6]; repeat (first | exact Below.refl _ _ | exact below_new _ | exact b5.out | assumption | refine Below.drew ?_ | refine Below.drewN ?_ _ | refine below_alloc ?_ _ | refine below_blk' ?_ (by omega) _)
    rw [hw6]
    clear hw6
    try clear gA lA nA mA
    try clear jA
    have jA := kA.later
    obtain ⟨gA, lA, nA, mA⟩ := kA
    try clear gZ lZ nZ mZ
    try clear jZ
    have jZ := kZ.later
    obtain ⟨gZ, lZ, nZ, mZ⟩ := kZ
    try clear gB lB nB mB
    try clear jB
    have jB := kB.later
    obtain ⟨gB, lB, nB, mB⟩ := kB
    try clear gP lP nP mP
    try clear jP
    have jP := kP.later
    obtain ⟨gP, lP, nP, mP⟩ := kP
    clear b5
    rw [hP] at *
    clear hP
    clear jA jZ jB jP
    refine (hR2.out _).mono ?_
    rintro e w7 ⟨rfl, hb7⟩
    have kA := Kept.on (kept (b := W.heap.size) (o := .cells (quad a) 24 (0, 0)) (by go_simp)) hb7
    have kZ := Kept.on (kept (b := W.heap.size + 1) (o := .cells (quad 0) 24 (0, 0)) (by go_simp)) hb7
    have kB := Kept.on (kept (b := B) (o := .cells (quad b) 24 (0, 0)) (by go_simp)) hb7
    have kP := Kept.on (kept (b := P) (o := .cells (quad p) 24 (0, 0)) (by go_simp)) hb7
    have b7 : Hid (Below W.heap.size W w7) := below_to (by repeat (first | exact Below.refl _ _ | exact below_new _ | exact b6.out | assumption | refine Below.drew ?_ | refine Below.drewN ?_ _ | refine below_alloc ?_ _ | refine below_blk' ?_ (by omega) _)) hb7
    clear hb7
    try clear gA lA nA mA
    obtain ⟨gA, lA, nA, mA⟩ := kA
    try clear gZ lZ nZ mZ
    obtain ⟨gZ, lZ, nZ, mZ⟩ := kZ
    try clear gB lB nB mB
    obtain ⟨gB, lB, nB, mB⟩ := kB
    try clear gP lP nP mP
    obtain ⟨gP, lP, nP, mP⟩ := kP
    clear b6
    go_wp2_with fail
    obtain ⟨Q, hQ⟩ : ∃ b, w7.heap.size = b := ⟨_, rfl⟩
    have wQ : W.heap.size ≤ Q := by rw [← hQ]; exact b7.out.size
    have eAQ : (W.heap.size = Q) = False := by rw [← hQ]; exact nA
    have eQA : (Q = W.heap.size) = False := by rw [← hQ]; exact mA
    have eZQ : (W.heap.size + 1 = Q) = False := by rw [← hQ]; exact nZ
    have eQZ : (Q = W.heap.size + 1) = False := by rw [← hQ]; exact mZ
    have eBQ : (B = Q) = False := by rw [← hQ]; exact nB
    have eQB : (Q = B) = False := by rw [← hQ]; exact mB
    have ePQ : (P = Q) = False := by rw [← hQ]; exact nP
    have eQP : (Q = P) = False := by rw [← hQ]; exact mP
    obtain ⟨w8, hw8⟩ : ∃ w8, w7.alloc (.cells (quad q) 24) = w8 := ⟨_, rfl⟩
    have kA := kept (show hget w8 (W.heap.size) = some (.cells (quad a) 24 (0, 0)) by rw [← hw8]; clear hw8; go_simp)
    have kZ := kept (show hget w8 (W.heap.size + 1) = some (.cells (quad 0) 24 (0, 0)) by rw [← hw8]; clear hw8; go_simp)
    have kB := kept (show hget w8 (B) = some (.cells (quad b) 24 (0, 0)) by rw [← hw8]; clear hw8; go_simp)
    have kP := kept (show hget w8 (P) = some (.cells (quad p) 24 (0, 0)) by rw [← hw8]; clear hw8; go_simp)
    have kQ := kept (show hget w8 (w7.heap.size) = some (.cells (quad q) 24) by rw [← hw8]; clear hw8; go_simp)
    have b8 : Hid (Below W.heap.size W w8) := by rw [← hw8]; repeat (first | exact Below.refl _ _ | exact below_new _ | exact b7.out | assumption | refine Below.drew ?_ | refine Below.drewN ?_ _ | refine below_alloc ?_ _ | refine below_blk' ?_ (by omega) _)
    rw [hw8]
    clear hw8
    try clear gA lA nA mA
    try clear jA
    have jA := kA.later
    obtain ⟨gA, lA, nA, mA⟩ := kA
    try clear gZ lZ nZ mZ
    try clear jZ
    have jZ := kZ.later
    obtain ⟨gZ, lZ, nZ, mZ⟩ := kZ
    try clear gB lB nB mB
    try clear jB
    have jB := kB.later
    obtain ⟨gB, lB, nB, mB⟩ := kB
    try clear gP lP nP mP
    try clear jP
    have jP := kP.later
    obtain ⟨gP, lP, nP, mP⟩ := kP
    try clear gQ lQ nQ mQ
    try clear jQ
    have jQ := kQ.later
    obtain ⟨gQ, lQ, nQ, mQ⟩ := kQ
    clear b7
    rw [hQ] at *
    clear hQ
    clear jA jZ jB jP jQ
    refine (hR3.out _).mono ?_
    rintro e w9 ⟨rfl, hb9⟩
    have kA := Kept.on (kept (b := W.heap.size) (o := .cells (quad a) 24 (0, 0)) (by go_simp)) hb9
    have kZ := Kept.on (kept (b := W.heap.size + 1) (o := .cells (quad 0) 24 (0, 0)) (by go_simp)) hb9
    have kB := Kept.on (kept (b := B) (o := .cells (quad b) 24 (0, 0)) (by go_simp)) hb9
    have kP := Kept.on (kept (b := P) (o := .cells (quad p) 24 (0, 0)) (by go_simp)) hb9
    have kQ := Kept.on (kept (b := Q) (o := .cells (quad q) 24 (0, 0)) (by go_simp)) hb9
    have b9 : Hid (Below W.heap.size W w9) := below_to (by repeat (first | exact Below.refl _ _ | exact below_new _ | exact b8.out | assumption | refine Below.drew ?_ | refine Below.drewN ?_ _ | refine below_alloc ?_ _ | refine below_blk' ?_ (by omega) _)) hb9
    clear hb9
    try clear gA lA nA mA
    obtain ⟨gA, lA, nA, mA⟩ := kA
    try clear gZ lZ nZ mZ
    obtain ⟨gZ, lZ, nZ, mZ⟩ := kZ
    try clear gB lB nB mB
    obtain ⟨gB, lB, nB, mB⟩ := kB
    try clear gP lP nP mP
    obtain ⟨gP, lP, nP, mP⟩ := kP
    try clear gQ lQ nQ mQ
    obtain ⟨gQ, lQ, nQ, mQ⟩ := kQ
    clear b8
    go_wp2_with fail
    obtain ⟨U, hU⟩ : ∃ b, w9.heap.size = b := ⟨_, rfl⟩
    have wU : W.heap.size ≤ U := by rw [← hU]; exact b9.out.size
    have eAU : (W.heap.size = U) = False := by rw [← hU]; exact nA
    have eUA : (U = W.heap.size) = False := by rw [← hU]; exact mA
    have eZU : (W.heap.size + 1 = U) = False := by rw [← hU]; exact nZ
    have eUZ : (U = W.heap.size + 1) = False := by rw [← hU]; exact mZ
    have eBU : (B = U) = False := by rw [← hU]; exact nB
    have eUB : (U = B) = False := by rw [← hU]; exact mB
    have ePU : (P = U) = False := by rw [← hU]; exact nP
    have eUP : (U = P) = False := by rw [← hU]; exact mP
    have eQU : (Q = U) = False := by rw [← hU]; exact nQ
    have eUQ : (U = Q) = False := by rw [← hU]; exact mQ
    obtain ⟨w10, hw10⟩ : ∃ w10, w9.alloc (.cells (quad u) 24) = w10 := ⟨_, rfl⟩
    have kA := kept (show hget w10 (W.heap.size) = some (.cells (quad a) 24 (0, 0)) by rw [← hw10]; clear hw10; go_simp)
    have kZ := kept (show hget w10 (W.heap.size + 1) = some (.cells (quad 0) 24 (0, 0)) by rw [← hw10]; clear hw10; go_simp)
    have kB := kept (show hget w10 (B) = some (.cells (quad b) 24 (0, 0)) by rw [← hw10]; clear hw10; go_simp)
    have kP := kept (show hget w10 (P) = some (.cells (quad p) 24 (0, 0)) by rw [← hw10]; clear hw10; go_simp)
    have kQ := kept (show hget w10 (Q) = some (.cells (quad q) 24 (0, 0)) by rw [← hw10]; clear hw10; go_simp)
    have kU := kept (show hget w10 (w9.heap.size) = some (.cells (quad u) 24) by rw [← hw10]; clear hw10; go_simp)
    have b10 : Hid (Below W.heap.size W w10) := by rw [← hw10]; repeat (first | exact Below.refl _ _ | exact below_new _ | exact b9.out | assumption | refine Below.drew ?_ | refine Below.drewN ?_ _ | refine below_alloc ?_ _ | refine below_blk' ?_ (by omega) _)
    rw [hw10]
    clear hw10
    try clear gA lA nA mA
    try clear jA
    have jA := kA.later
    obtain ⟨gA, lA, nA, mA⟩ := kA
    try clear gZ lZ nZ mZ
    try clear jZ
    have jZ := kZ.later
    obtain ⟨gZ, lZ, nZ, mZ⟩ := kZ
    try clear gB lB nB mB
    try clear jB
    have jB := kB.later
    obtain ⟨gB, lB, nB, mB⟩ := kB
    try clear gP lP nP mP
    try clear jP
    have jP := kP.later
    obtain ⟨gP, lP, nP, mP⟩ := kP
    try clear gQ lQ nQ mQ
    try clear jQ
    have jQ := kQ.later
    obtain ⟨gQ, lQ, nQ, mQ⟩ := kQ
    try clear gU lU nU mU
    try clear jU
    have jU := kU.later
    obtain ⟨gU, lU, nU, mU⟩ := kU
    clear b9
    rw [hU] at *
    clear hU
    refine (HS0.out _).mono ?_
    rintro e w11 ⟨rfl, hb11⟩
    have kA := Kept.on (kept (b := W.heap.size) (o := .cells (quad a) 24 (0, 0)) (by go_simp)) hb11
    have kZ := Kept.on (kept (b := W.heap.size + 1) (o := .cells (quad 0) 24 (0, 0)) (by go_simp)) hb11
    have kB := Kept.on (kept (b := B) (o := .cells (quad b) 24 (0, 0)) (by go_simp)) hb11
    have kP := Kept.on (kept (b := P) (o := .cells (quad p) 24 (0, 0)) (by go_simp)) hb11
    have kQ := Kept.on (kept (b := Q) (o := .cells (quad q) 24 (0, 0)) (by go_simp)) hb11
    have kU := Kept.on (kept (b := U) (o := .cells (quad u) 24 (0, 0)) (by go_simp)) hb11
    have b11 : Hid (Below W.heap.size W w11) := below_to (by repeat (first | exact Below.refl _ _ | exact below_new _ | exact b10.out | assumption | refine Below.drew ?_ | refine Below.drewN ?_ _ | refine below_alloc ?_ _ | refine below_blk' ?_ (by omega) _)) hb11
    clear hb11
    try clear gA lA nA mA
    obtain ⟨gA, lA, nA, mA⟩ := kA
    try clear gZ lZ nZ mZ
    obtain ⟨gZ, lZ, nZ, mZ⟩ := kZ
    try clear gB lB nB mB
    obtain ⟨gB, lB, nB, mB⟩ := kB
    try clear gP lP nP mP
    obtain ⟨gP, lP, nP, mP⟩ := kP
    try clear gQ lQ nQ mQ
    obtain ⟨gQ, lQ, nQ, mQ⟩ := kQ
    try clear gU lU nU mU
    obtain ⟨gU, lU, nU, mU⟩ := kU
    clear b10
    go_wp2_with fail
    refine (HSp.out _).mono ?_
    rintro e w12 ⟨rfl, hb12⟩
    have b12 : Hid (Below W.heap.size W w12) := below_to (by repeat (first | exact Below.refl _ _ | exact below_new _ | exact b11.out | assumption | refine Below.drew ?_ | refine Below.drewN ?_ _ | refine below_alloc ?_ _ | refine below_blk' ?_ (by omega) _)) hb12
    clear hb12
    clear b11
    go_wp2_with fail
    go_ret
    exact ⟨rfl, b12.out⟩
  · have e0 : decide (a % pP = 0 % pP) = false := decide_eq_false (by rw [zmod]; exact h0)
    rw [e0] at hS0
    have HS0 := hid hS0
    have k1 := ok_is ha false h0
    have k2 := ok_is ha true h0
    have k3 := (ok_is lb false (twice_ne h0)).trans (twice_is h0)
    rw [k1] at hR1
    rw [k2] at hR2
    rw [k3] at hR3
    cases hr : rIs (a % pP)
    · have hr3 : rIs (addN a a % pP) = true := by rw [twice_is h0, hr]; rfl
      have q4 : decide (mulN (rootV (addN a a) false) (rootV (addN a a) false) % pP = addN a a % pP) = true := decide_eq_true (v_sq lb false hr3)
      have o3 := v_par lb false hr3 (twice_ne h0)
      rw [hr] at hR1 hR2 hR3
      rw [q4] at hS4
      rw [o3] at hO3
      have HS4 := hid hS4
      have HO3 := hid hO3
      clear hS0 hSp hMp hMq hApq hS1 hS2 hS3 hS4 hO1 hO2 hO3 lp lq lu k1 k2 k3 e0 h0 q4 o3 hr3 hr
      generalize mulN (rootV (addN a a) false) (rootV (addN a a) false) = m at *
      generalize rootV a false = p at *
      generalize rootV a true = q at *
      generalize rootV (addN a a) false = u at *
      generalize addN a a = b at *
      clear lb ha
      simp only [Bool.not_false] at hR3
      go_enter Try.func29, Try.ntmps29
      go_wp2_with fail
      obtain ⟨w2, hw2⟩ : ∃ w2, blk ((W.alloc (.cells (quad a) 24)).alloc (.cells (quad 0) 24)) (W.heap.size + 1) (.cells (quad 0) 24 (0, 0)) = w2 := ⟨_, rfl⟩
      have kA := kept (show hget w2 (W.heap.size) = some (.cells (quad a) 24 (0, 0)) by rw [← hw2]; clear hw2; go_simp)
      have kZ := kept (show hget w2 (W.heap.size + 1) = some (.cells (quad 0) 24 (0, 0)) by rw [← hw2]; clear hw2; go_simp)
      have b2 : Hid (Below W.heap.size W w2) := by rw [← hw2]; repeat (first | exact Below.refl _ _ | exact below_new _ | assumption | refine Below.drew ?_ | refine Below.drewN ?_ _ | refine below_alloc ?_ _ | refine below_blk' ?_ (by omega) _)
      rw [hw2]
      clear hw2
      try clear gA lA nA mA
      try clear jA
      have jA := kA.later
      obtain ⟨gA, lA, nA, mA⟩ := kA
      try clear gZ lZ nZ mZ
      try clear jZ
      have jZ := kZ.later
      obtain ⟨gZ, lZ, nZ, mZ⟩ := kZ
      clear jA jZ
      refine (hA.out _).mono ?_
      rintro e w3 ⟨rfl, hb3⟩
      have kA := Kept.on (kept (b := W.heap.size) (o := .cells (quad a) 24 (0, 0)) (by go_simp)) hb3
      have kZ := Kept.on (kept (b := W.heap.size + 1) (o := .cells (quad 0) 24 (0, 0)) (by go_simp)) hb3
      have b3 : Hid (Below W.heap.size W w3) := below_to (by repeat (first | exact Below.refl _ _ | exact below_new _ | exact b2.out | assumption | refine Below.drew ?_ | refine Below.drewN ?_ _ | refine below_alloc ?_ _ | refine below_blk' ?_ (by omega) _)) hb3
      clear hb3
      try clear gA lA nA mA
      obtain ⟨gA, lA, nA, mA⟩ := kA
      try clear gZ lZ nZ mZ
      obtain ⟨gZ, lZ, nZ, mZ⟩ := kZ
      clear b2
      go_wp2_with fail
      obtain ⟨B, hB⟩ : ∃ b, w3.heap.size = b := ⟨_, rfl⟩
      have wB : W.heap.size ≤ B := by rw [← hB]; exact b3.out.size
      have eAB : (W.heap.size = B) = False := by rw [← hB]; exact nA
      have eBA : (B = W.heap.size) = False := by rw [← hB]; exact mA
      have eZB : (W.heap.size + 1 = B) = False := by rw [← hB]; exact nZ
      have eBZ : (B = W.heap.size + 1) = False := by rw [← hB]; exact mZ
      obtain ⟨w4, hw4⟩ : ∃ w4, w3.alloc (.cells (quad b) 24) = w4 := ⟨_, rfl⟩
      have kA := kept (show hget w4 (W.heap.size) = some (.cells (quad a) 24 (0, 0)) by rw [← hw4]; clear hw4; go_simp)
      have kZ := kept (show hget w4 (W.heap.size + 1) = some (.cells (quad 0) 24 (0, 0)) by rw [← hw4]; clear hw4; go_simp)
      have kB := kept (show hget w4 (w3.heap.size) = some (.cells (quad b) 24) by rw [← hw4]; clear hw4; go_simp)
      have b4 : Hid (Below W.heap.size W w4) := by rw [← hw4]; repeat (first | exact Below.refl _ _ | exact below_new _ | exact b3.out | assumption | refine Below.drew ?_ | refine Below.drewN ?_ _ | refine below_alloc ?_ _ | refine below_blk' ?_ (by omega) _)
      rw [hw4]
      clear hw4
      try clear gA lA nA mA
      try clear jA
      have jA := kA.later
      obtain ⟨gA, lA, nA, mA⟩ := kA
      try clear gZ lZ nZ mZ
      try clear jZ
      have jZ := kZ.later
      obtain ⟨gZ, lZ, nZ, mZ⟩ := kZ
      try clear gB lB nB mB
      try clear jB
      have jB := kB.later
      obtain ⟨gB, lB, nB, mB⟩ := kB
      clear b3
      rw [hB] at *
      clear hB
      clear jA jZ jB
      refine (hR1.out _).mono ?_
      rintro e w5 ⟨rfl, hb5⟩
      have kA := Kept.on (kept (b := W.heap.size) (o := .cells (quad a) 24 (0, 0)) (by go_simp)) hb5
      have kZ := Kept.on (kept (b := W.heap.size + 1) (o := .cells (quad 0) 24 (0, 0)) (by go_simp)) hb5
      have kB := Kept.on (kept (b := B) (o := .cells (quad b) 24 (0, 0)) (by go_simp)) hb5
      have b5 : Hid (Below W.heap.size W w5) := below_to (by repeat (first | exact Below.refl _ _ | exact below_new _ | exact b4.out | assumption | refine Below.drew ?_ | refine Below.drewN ?_ _ | refine below_alloc ?_ _ | refine below_blk' ?_ (by omega) _)) hb5
      clear hb5
      try clear gA lA nA mA
      obtain ⟨gA, lA, nA, mA⟩ := kA
      try clear gZ lZ nZ mZ
      obtain ⟨gZ, lZ, nZ, mZ⟩ := kZ
      try clear gB lB nB mB
      obtain ⟨gB, lB, nB, mB⟩ := kB
      clear b4
      go_wp2_with fail
      obtain ⟨P, hP⟩ : ∃ b, w5.heap.size = b := ⟨_, rfl⟩
      have wP : W.heap.size ≤ P := by rw [← hP]; exact b5.out.size
      have eAP : (W.heap.size = P) = False := by rw [← hP]; exact nA
      have ePA : (P = W.heap.size) = False := by rw [← hP]; exact mA
      have eZP : (W.heap.size + 1 = P) = False := by rw [← hP]; exact nZ
      have ePZ : (P = W.heap.size + 1) = False := by rw [← hP]; exact mZ
      have eBP : (B = P) = False := by rw [← hP]; exact nB
      have ePB : (P = B) = False := by rw [← hP]; exact mB
      obtain ⟨w6, hw6⟩ : ∃ w6, w5.alloc (.cells (quad p) 24) = w6 := ⟨_, rfl⟩
      have kA := kept (show hget w6 (W.heap.size) = some (.cells (quad a) 24 (0, 0)) by rw [← hw6]; clear hw6; go_simp)
      have kZ := kept (show hget w6 (W.heap.size + 1) = some (.cells (quad 0) 24 (0, 0)) by rw [← hw6]; clear hw6; go_simp)
      have kB := kept (show hget w6 (B) = some (.cells (quad b) 24 (0, 0)) by rw [← hw6]; clear hw6; go_simp)
      have kP := kept (show hget w6 (w5.heap.size) = some (.cells (quad p) 24) by rw [← hw6]; clear hw6; go_simp)
      have b6 : Hid (Below W.heap.size W w6) := by rw [← hw6]; repeat (first | exact Below.refl _ _ | exact below_new _ | exact b5.out | assumption | refine Below.drew ?_ | refine Below.drewN ?_ _ | refine below_alloc ?_ _ | refine below_blk' ?_ (by omega) _)
      rw [hw6]
      clear hw6
      try clear gA lA nA mA
      try clear jA
      have jA := kA.later
      obtain ⟨gA, lA, nA, mA⟩ := kA
      try clear gZ lZ nZ mZ
      try clear jZ
      have jZ := kZ.later
      obtain ⟨gZ, lZ, nZ, mZ⟩ := kZ
      try clear gB lB nB mB
      try clear jB
      have jB := kB.later
      obtain ⟨gB, lB, nB, mB⟩ := kB
      try clear gP lP nP mP
      try clear jP
      have jP := kP.later
      obtain ⟨gP, lP, nP, mP⟩ := kP
      clear b5
      rw [hP] at *
      clear hP
      clear jA jZ jB jP
      refine (hR2.out _).mono ?_
      rintro e w7 ⟨rfl, hb7⟩
      have kA := Kept.on (kept (b := W.heap.size) (o := .cells (quad a) 24 (0, 0)) (by go_simp)) hb7
      have kZ := Kept.on (kept (b := W.heap.size + 1) (o := .cells (quad 0) 24 (0, 0)) (by go_simp)) hb7
      have kB := Kept.on (kept (b := B) (o := .cells (quad b) 24 (0, 0)) (by go_simp)) hb7
      have kP := Kept.on (kept (b := P) (o := .cells (quad p) 24 (0, 0)) (by go_simp)) hb7
      have b7 : Hid (Below W.heap.size W w7) := below_to (by repeat (first | exact Below.refl _ _ | exact below_new _ | exact b6.out | assumption | refine Below.drew ?_ | refine Below.drewN ?_ _ | refine below_alloc ?_ _ | refine below_blk' ?_ (by omega) _)) hb7
      clear hb7
      try clear gA lA nA mA
      obtain ⟨gA, lA, nA, mA⟩ := kA
      try clear gZ lZ nZ mZ
      obtain ⟨gZ, lZ, nZ, mZ⟩ := kZ
      try clear gB lB nB mB
      obtain ⟨gB, lB, nB, mB⟩ := kB
      try clear gP lP nP mP
      obtain ⟨gP, lP, nP, mP⟩ := kP
      clear b6
      go_wp2_with fail
      obtain ⟨Q, hQ⟩ : ∃ b, w7.heap.size = b := ⟨_, rfl⟩
      have wQ : W.heap.size ≤ Q := by rw [← hQ]; exact b7.out.size
      have eAQ : (W.heap.size = Q) = False := by rw [← hQ]; exact nA
      have eQA : (Q = W.heap.size) = False := by rw [← hQ]; exact mA
      have eZQ : (W.heap.size + 1 = Q) = False := by rw [← hQ]; exact nZ
      have eQZ : (Q = W.heap.size + 1) = False := by rw [← hQ]; exact mZ
      have eBQ : (B = Q) = False := by rw [← hQ]; exact nB
      have eQB : (Q = B) = False := by rw [← hQ]; exact mB
      have ePQ : (P = Q) = False := by rw [← hQ]; exact nP
      have eQP : (Q = P) = False := by rw [← hQ]; exact mP
      obtain ⟨w8, hw8⟩ : ∃ w8, w7.alloc (.cells (quad q) 24) = w8 := ⟨_, rfl⟩
      have kA := kept (show hget w8 (W.heap.size) = some (.cells (quad a) 24 (0, 0)) by rw [← hw8]; clear hw8; go_simp)
      have kZ := kept (show hget w8 (W.heap.size + 1) = some (.cells (quad 0) 24 (0, 0)) by rw [← hw8]; clear hw8; go_simp)
      have kB := kept (show hget w8 (B) = some (.cells (quad b) 24 (0, 0)) by rw [← hw8]; clear hw8; go_simp)
      have kP := kept (show hget w8 (P) = some (.cells (quad p) 24 (0, 0)) by rw [← hw8]; clear hw8; go_simp)
      have kQ := kept (show hget w8 (w7.heap.size) = some (.cells (quad q) 24) by rw [← hw8]; clear hw8; go_simp)
      have b8 : Hid (Below W.heap.size W w8) := by rw [← hw8]; repeat (first | exact Below.refl _ _ | exact below_new _ | exact b7.out | assumption | refine Below.drew ?_ | refine Below.drewN ?_ _ | refine below_alloc ?_ _ | refine below_blk' ?_ (by omega) _)
      rw [hw8]
      clear hw8
      try clear gA lA nA mA
      try clear jA
      have jA := kA.later
      obtain ⟨gA, lA, nA, mA⟩ := kA
      try clear gZ lZ nZ mZ
      try clear jZ
      have jZ := kZ.later
      obtain ⟨gZ, lZ, nZ, mZ⟩ := kZ
      try clear gB lB nB mB
      try clear jB
      have jB := kB.later
      obtain ⟨gB, lB, nB, mB⟩ := kB
      try clear gP lP nP mP
      try clear jP
      have jP := kP.later
      obtain ⟨gP, lP, nP, mP⟩ := kP
      try clear gQ lQ nQ mQ
      try clear jQ
      have jQ := kQ.later
      obtain ⟨gQ, lQ, nQ, mQ⟩ := kQ
      clear b7
      rw [hQ] at *
      clear hQ
      clear jA jZ jB jP jQ
      refine (hR3.out _).mono ?_
      rintro e w9 ⟨rfl, hb9⟩
      have kA := Kept.on (kept (b := W.heap.size) (o := .cells (quad a) 24 (0, 0)) (by go_simp)) hb9
      have kZ := Kept.on (kept (b := W.heap.size + 1) (o := .cells (quad 0) 24 (0, 0)) (by go_simp)) hb9
      have kB := Kept.on (kept (b := B) (o := .cells (quad b) 24 (0, 0)) (by go_simp)) hb9
      have kP := Kept.on (kept (b := P) (o := .cells (quad p) 24 (0, 0)) (by go_simp)) hb9
      have kQ := Kept.on (kept (b := Q) (o := .cells (quad q) 24 (0, 0)) (by go_simp)) hb9
      have b9 : Hid (Below W.heap.size W w9) := below_to (by repeat (first | exact Below.refl _ _ | exact below_new _ | exact b8.out | assumption | refine Below.drew ?_ | refine Below.drewN ?_ _ | refine below_alloc ?_ _ | refine below_blk' ?_ (by omega) _)) hb9
      clear hb9
      try clear gA lA nA mA
      obtain ⟨gA, lA, nA, mA⟩ := kA
      try clear gZ lZ nZ mZ
      obtain ⟨gZ, lZ, nZ, mZ⟩ := kZ
      try clear gB lB nB mB
      obtain ⟨gB, lB, nB, mB⟩ := kB
      try clear gP lP nP mP
      obtain ⟨gP, lP, nP, mP⟩ := kP
      try clear gQ lQ nQ mQ
      obtain ⟨gQ, lQ, nQ, mQ⟩ := kQ
      clear b8
      go_wp2_with fail
      obtain ⟨U, hU⟩ : ∃ b, w9.heap.size = b := ⟨_, rfl⟩
      have wU : W.heap.size ≤ U := by rw [← hU]; exact b9.out.size
      have eAU : (W.heap.size = U) = False := by rw [← hU]; exact nA
      have eUA : (U = W.heap.size) = False := by rw [← hU]; exact mA
      have eZU : (W.heap.size + 1 = U) = False := by rw [← hU]; exact nZ
      have eUZ : (U = W.heap.size + 1) = False := by rw [← hU]; exact mZ
      have eBU : (B = U) = False := by rw [← hU]; exact nB
      have eUB : (U = B) = False := by rw [← hU]; exact mB
      have ePU : (P = U) = False := by rw [← hU]; exact nP
      have eUP : (U = P) = False := by rw [← hU]; exact mP
      have eQU : (Q = U) = False := by rw [← hU]; exact nQ
      have eUQ : (U = Q) = False := by rw [← hU]; exact mQ
      obtain ⟨w10, hw10⟩ : ∃ w10, w9.alloc (.cells (quad u) 24) = w10 := ⟨_, rfl⟩
      have kA := kept (show hget w10 (W.heap.size) = some (.cells (quad a) 24 (0, 0)) by rw [← hw10]; clear hw10; go_simp)
      have kZ := kept (show hget w10 (W.heap.size + 1) = some (.cells (quad 0) 24 (0, 0)) by rw [← hw10]; clear hw10; go_simp)
      have kB := kept (show hget w10 (B) = some (.cells (quad b) 24 (0, 0)) by rw [← hw10]; clear hw10; go_simp)
      have kP := kept (show hget w10 (P) = some (.cells (quad p) 24 (0, 0)) by rw [← hw10]; clear hw10; go_simp)
      have kQ := kept (show hget w10 (Q) = some (.cells (quad q) 24 (0, 0)) by rw [← hw10]; clear hw10; go_simp)
      have kU := kept (show hget w10 (w9.heap.size) = some (.cells (quad u) 24) by rw [← hw10]; clear hw10; go_simp)
      have b10 : Hid (Below W.heap.size W w10) := by rw [← hw10]; repeat (first | exact Below.refl _ _ | exact below_new _ | exact b9.out | assumption | refine Below.drew ?_ | refine Below.drewN ?_ _ | refine below_alloc ?_ _ | refine below_blk' ?_ (by omega) _)
      rw [hw10]
      clear hw10
      try clear gA lA nA mA
      try clear jA
      have jA := kA.later
      obtain ⟨gA, lA, nA, mA⟩ := kA
      try clear gZ lZ nZ mZ
      try clear jZ
      have jZ := kZ.later
      obtain ⟨gZ, lZ, nZ, mZ⟩ := kZ
      try clear gB lB nB mB
      try clear jB
      have jB := kB.later
      obtain ⟨gB, lB, nB, mB⟩ := kB
      try clear gP lP nP mP
      try clear jP
      have jP := kP.later
      obtain ⟨gP, lP, nP, mP⟩ := kP
      try clear gQ lQ nQ mQ
      try clear jQ
      have jQ := kQ.later
      obtain ⟨gQ, lQ, nQ, mQ⟩ := kQ
      try clear gU lU nU mU
      try clear jU
      have jU := kU.later
      obtain ⟨gU, lU, nU, mU⟩ := kU
      clear b9
      rw [hU] at *
      clear hU
      refine (HS0.out _).mono ?_
      rintro e w11 ⟨rfl, hb11⟩
      have kA := Kept.on (kept (b := W.heap.size) (o := .cells (quad a) 24 (0, 0)) (by go_simp)) hb11
      have kZ := Kept.on (kept (b := W.heap.size + 1) (o := .cells (quad 0) 24 (0, 0)) (by go_simp)) hb11
      have kB := Kept.on (kept (b := B) (o := .cells (quad b) 24 (0, 0)) (by go_simp)) hb11
      have kP := Kept.on (kept (b := P) (o := .cells (quad p) 24 (0, 0)) (by go_simp)) hb11
      have kQ := Kept.on (kept (b := Q) (o := .cells (quad q) 24 (0, 0)) (by go_simp)) hb11
      have kU := Kept.on (kept (b := U) (o := .cells (quad u) 24 (0, 0)) (by go_simp)) hb11
      have b11 : Hid (Below W.heap.size W w11) := below_to (by repeat (first | exact Below.refl _ _ | exact below_new _ | exact b10.out | assumption | refine Below.drew ?_ | refine Below.drewN ?_ _ | refine below_alloc ?_ _ | refine below_blk' ?_ (by omega) _)) hb11
      clear hb11
      try clear gA lA nA mA
      obtain ⟨gA, lA, nA, mA⟩ := kA
      try clear gZ lZ nZ mZ
      obtain ⟨gZ, lZ, nZ, mZ⟩ := kZ
      try clear gB lB nB mB
      obtain ⟨gB, lB, nB, mB⟩ := kB
      try clear gP lP nP mP
      obtain ⟨gP, lP, nP, mP⟩ := kP
      try clear gQ lQ nQ mQ
      obtain ⟨gQ, lQ, nQ, mQ⟩ := kQ
      try clear gU lU nU mU
      obtain ⟨gU, lU, nU, mU⟩ := kU
      clear b10
      go_wp2_with fail
      obtain ⟨w12, hw12⟩ : ∃ w12, w11 = w12 := ⟨_, rfl⟩
      have kA := kept (show hget w12 (W.heap.size) = some (.cells (quad a) 24 (0, 0)) by rw [← hw12]; clear hw12; go_simp)
      have kZ := kept (show hget w12 (W.heap.size + 1) = some (.cells (quad 0) 24 (0, 0)) by rw [← hw12]; clear hw12; go_simp)
      have kB := kept (show hget w12 (B) = some (.cells (quad b) 24 (0, 0)) by rw [← hw12]; clear hw12; go_simp)
      have kP := kept (show hget w12 (P) = some (.cells (quad p) 24 (0, 0)) by rw [← hw12]; clear hw12; go_simp)
      have kQ := kept (show hget w12 (Q) = some (.cells (quad q) 24 (0, 0)) by rw [← hw12]; clear hw12; go_simp)
      have kU := kept (show hget w12 (U) = some (.cells (quad u) 24 (0, 0)) by rw [← hw12]; clear hw12; go_simp)
      have b12 : Hid (Below W.heap.size W w12) := by rw [← hw12]; repeat (first | exact Below.refl _ _ | exact below_new _ | exact b11.out | assumption | refine Below.drew ?_ | refine Below.drewN ?_ _ | refine below_alloc ?_ _ | refine below_blk' ?_ (by omega) _)
      rw [hw12]
      clear hw12
      try clear gA lA nA mA
      try clear jA
      have jA := kA.later
      obtain ⟨gA, lA, nA, mA⟩ := kA
      try clear gZ lZ nZ mZ
      try clear jZ
      have jZ := kZ.later
      obtain ⟨gZ, lZ, nZ, mZ⟩ := kZ
      try clear gB lB nB mB
      try clear jB
      have jB := kB.later
      obtain ⟨gB, lB, nB, mB⟩ := kB
      try clear gP lP nP mP
      try clear jP
      have jP := kP.later
      obtain ⟨gP, lP, nP, mP⟩ := kP
      try clear gQ lQ nQ mQ
      try clear jQ
      have jQ := kQ.later
      obtain ⟨gQ, lQ, nQ, mQ⟩ := kQ
      try clear gU lU nU mU
      try clear jU
      have jU := kU.later
      obtain ⟨gU, lU, nU, mU⟩ := kU
      clear b11
      refine wp_region_later (by kernel_rfl) (by kernel_rfl) ?_
      repeat ((go_big_quiet_step ((first | (go_at_call 20; first | with_reducible exact calls_later (HSp.out _) | with_reducible exact calls_later (HS1.out _) | with_reducible exact calls_later (HS2.out _) | with_reducible exact calls_later (HS3.out _) | with_reducible exact calls_later (HS4.out _)) | (go_at_call 26; first | with_reducible exact calls_later (hMp.out _) | with_reducible exact calls_later (hMq.out _) | with_reducible exact calls_later (hMu.out _)) | (go_at_call 22; with_reducible exact calls_later (hApq.out _)) | (go_at_call 21; first | with_reducible exact calls_later (HO1.out _) | with_reducible exact calls_later (HO2.out _) | with_reducible exact calls_later (HO3.out _))))))
      refine wpQuiet_nil ?_
      intro wL hwL
      obtain ⟨⟨w8, hL⟩, e8⟩ := hwL
      change wL = w8 at e8
      subst e8
      have bZ := hid (below_to b12.out hL)
      clear hL
      go_wp2_with fail
      go_ret
      exact ⟨rfl, bZ.out⟩
    · have q1 : decide (mulN (rootV a false) (rootV a false) % pP = a % pP) = true := decide_eq_true (v_sq ha false hr)
      have q2 : decide (mulN (rootV a true) (rootV a true) % pP = a % pP) = true := decide_eq_true (v_sq ha true hr)
      have q3 : decide (addN (rootV a false) (rootV a true) % pP = 0 % pP) = true := decide_eq_true (v_sum ha hr)
      have o1 := v_par ha false hr h0
      have o2 := v_par ha true hr h0
      rw [hr] at hR1 hR2 hR3
      rw [q1] at hS1
      rw [q2] at hS2
      rw [q3] at hS3
      rw [o1] at hO1
      rw [o2] at hO2
      have HS1 := hid hS1
      have HS2 := hid hS2
      have HS3 := hid hS3
      have HO1 := hid hO1
      have HO2 := hid hO2
      clear hS0 hSp hMu hS1 hS2 hS3 hS4 hO1 hO2 hO3 lp lq lu k1 k2 k3 e0 h0 q1 q2 q3 o1 o2 hr
      generalize mulN (rootV a false) (rootV a false) = m1 at *
      generalize mulN (rootV a true) (rootV a true) = m2 at *
      generalize addN (rootV a false) (rootV a true) = m3 at *
      generalize rootV a false = p at *
      generalize rootV a true = q at *
      generalize rootV (addN a a) false = u at *
      generalize addN a a = b at *
      clear lb ha
      simp only [Bool.not_true] at hR3
      go_enter Try.func29, Try.ntmps29
      go_wp2_with fail
      obtain ⟨w2, hw2⟩ : ∃ w2, blk ((W.alloc (.cells (quad a) 24)).alloc (.cells (quad 0) 24)) (W.heap.size + 1) (.cells (quad 0) 24 (0, 0)) = w2 := ⟨_, rfl⟩
      have kA := kept (show hget w2 (W.heap.size) = some (.cells (quad a) 24 (0, 0)) by rw [← hw2]; clear hw2; go_simp)
      have kZ := kept (show hget w2 (W.heap.size + 1) = some (.cells (quad 0) 24 (0, 0)) by rw [← hw2]; clear hw2; go_simp)
      have b2 : Hid (Below W.heap.size W w2) := by rw [← hw2]; repeat (first | exact Below.refl _ _ | exact below_new _ | assumption | refine Below.drew ?_ | refine Below.drewN ?_ _ | refine below_alloc ?_ _ | refine below_blk' ?_ (by omega) _)
      rw [hw2]
      clear hw2
      try clear gA lA nA mA
      try clear jA
      have jA := kA.later
      obtain ⟨gA, lA, nA, mA⟩ := kA
      try clear gZ lZ nZ mZ
      try clear jZ
      have jZ := kZ.later
      obtain ⟨gZ, lZ, nZ, mZ⟩ := kZ
      clear jA jZ
      refine (hA.out _).mono ?_
      rintro e w3 ⟨rfl, hb3⟩
      have kA := Kept.on (kept (b := W.heap.size) (o := .cells (quad a) 24 (0, 0)) (by go_simp)) hb3
      have kZ := Kept.on (kept (b := W.heap.size + 1) (o := .cells (quad 0) 24 (0, 0)) (by go_simp)) hb3
      have b3 : Hid (Below W.heap.size W w3) := below_to (by repeat (first | exact Below.refl _ _ | exact below_new _ | exact b2.out | assumption | refine Below.drew ?_ | refine Below.drewN ?_ _ | refine below_alloc ?_ _ | refine below_blk' ?_ (by omega) _)) hb3
      clear hb3
      try clear gA lA nA mA
      obtain ⟨gA, lA, nA, mA⟩ := kA
      try clear gZ lZ nZ mZ
      obtain ⟨gZ, lZ, nZ, mZ⟩ := kZ
      clear b2
      go_wp2_with fail
      obtain ⟨B, hB⟩ : ∃ b, w3.heap.size = b := ⟨_, rfl⟩
      have wB : W.heap.size ≤ B := by rw [← hB]; exact b3.out.size
      have eAB : (W.heap.size = B) = False := by rw [← hB]; exact nA
      have eBA : (B = W.heap.size) = False := by rw [← hB]; exact mA
      have eZB : (W.heap.size + 1 = B) = False := by rw [← hB]; exact nZ
      have eBZ : (B = W.heap.size + 1) = False := by rw [← hB]; exact mZ
      obtain ⟨w4, hw4⟩ : ∃ w4, w3.alloc (.cells (quad b) 24) = w4 := ⟨_, rfl⟩
      have kA := kept (show hget w4 (W.heap.size) = some (.cells (quad a) 24 (0, 0)) by rw [← hw4]; clear hw4; go_simp)
      have kZ := kept (show hget w4 (W.heap.size + 1) = some (.cells (quad 0) 24 (0, 0)) by rw [← hw4]; clear hw4; go_simp)
      have kB := kept (show hget w4 (w3.heap.size) = some (.cells (quad b) 24) by rw [← hw4]; clear hw4; go_simp)
      have b4 : Hid (Below W.heap.size W w4) := by rw [← hw4]; repeat (first | exact Below.refl _ _ | exact below_new _ | exact b3.out | assumption | refine Below.drew ?_ | refine Below.drewN ?_ _ | refine below_alloc ?_ _ | refine below_blk' ?_ (by omega) _)
      rw [hw4]
      clear hw4
      try clear gA lA nA mA
      try clear jA
      have jA := kA.later
      obtain ⟨gA, lA, nA, mA⟩ := kA
      try clear gZ lZ nZ mZ
      try clear jZ
      have jZ := kZ.later
      obtain ⟨gZ, lZ, nZ, mZ⟩ := kZ
      try clear gB lB nB mB
      try clear jB
      have jB := kB.later
      obtain ⟨gB, lB, nB, mB⟩ := kB
      clear b3
      rw [hB] at *
      clear hB
      clear jA jZ jB
      refine (hR1.out _).mono ?_
      rintro e w5 ⟨rfl, hb5⟩
      have kA := Kept.on (kept (b := W.heap.size) (o := .cells (quad a) 24 (0, 0)) (by go_simp)) hb5
      have kZ := Kept.on (kept (b := W.heap.size + 1) (o := .cells (quad 0) 24 (0, 0)) (by go_simp)) hb5
      have kB := Kept.on (kept (b := B) (o := .cells (quad b) 24 (0, 0)) (by go_simp)) hb5
      have b5 : Hid (Below W.heap.size W w5) := below_to (by repeat (first | exact Below.refl _ _ | exact below_new _ | exact b4.out | assumption | refine Below.drew ?_ | refine Below.drewN ?_ _ | refine below_alloc ?_ _ | refine below_blk' ?_ (by omega) _)) hb5
      clear hb5
      try clear gA lA nA mA
      obtain ⟨gA, lA, nA, mA⟩ := kA
      try clear gZ lZ nZ mZ
      obtain ⟨gZ, lZ, nZ, mZ⟩ := kZ
      try clear gB lB nB mB
      obtain ⟨gB, lB, nB, mB⟩ := kB
      clear b4
      go_wp2_with fail
      obtain ⟨P, hP⟩ : ∃ b, w5.heap.size = b := ⟨_, rfl⟩
      have wP : W.heap.size ≤ P := by rw [← hP]; exact b5.out.size
      have eAP : (W.heap.size = P) = False := by rw [← hP]; exact nA
      have ePA : (P = W.heap.size) = False := by rw [← hP]; exact mA
      have eZP : (W.heap.size + 1 = P) = False := by rw [← hP]; exact nZ
      have ePZ : (P = W.heap.size + 1) = False := by rw [← hP]; exact mZ
      have eBP : (B = P) = False := by rw [← hP]; exact nB
      have ePB : (P = B) = False := by rw [← hP]; exact mB
      obtain ⟨w6, hw6⟩ : ∃ w6, w5.alloc (.cells (quad p) 24) = w6 := ⟨_, rfl⟩
      have kA := kept (show hget w6 (W.heap.size) = some (.cells (quad a) 24 (0, 0)) by rw [← hw6]; clear hw6; go_simp)
      have kZ := kept (show hget w6 (W.heap.size + 1) = some (.cells (quad 0) 24 (0, 0)) by rw [← hw6]; clear hw6; go_simp)
      have kB := kept (show hget w6 (B) = some (.cells (quad b) 24 (0, 0)) by rw [← hw6]; clear hw6; go_simp)
      have kP := kept (show hget w6 (w5.heap.size) = some (.cells (quad p) 24) by rw [← hw6]; clear hw6; go_simp)
      have b6 : Hid (Below W.heap.size W w6) := by rw [← hw6]; repeat (first | exact Below.refl _ _ | exact below_new _ | exact b5.out | assumption | refine Below.drew ?_ | refine Below.drewN ?_ _ | refine below_alloc ?_ _ | refine below_blk' ?_ (by omega) _)
      rw [hw6]
      clear hw6
      try clear gA lA nA mA
      try clear jA
      have jA := kA.later
      obtain ⟨gA, lA, nA, mA⟩ := kA
      try clear gZ lZ nZ mZ
      try clear jZ
      have jZ := kZ.later
      obtain ⟨gZ, lZ, nZ, mZ⟩ := kZ
      try clear gB lB nB mB
      try clear jB
      have jB := kB.later
      obtain ⟨gB, lB, nB, mB⟩ := kB
      try clear gP lP nP mP
      try clear jP
      have jP := kP.later
      obtain ⟨gP, lP, nP, mP⟩ := kP
      clear b5
      rw [hP] at *
      clear hP
      clear jA jZ jB jP
      refine (hR2.out _).mono ?_
      rintro e w7 ⟨rfl, hb7⟩
      have kA := Kept.on (kept (b := W.heap.size) (o := .cells (quad a) 24 (0, 0)) (by go_simp)) hb7
      have kZ := Kept.on (kept (b := W.heap.size + 1) (o := .cells (quad 0) 24 (0, 0)) (by go_simp)) hb7
      have kB := Kept.on (kept (b := B) (o := .cells (quad b) 24 (0, 0)) (by go_simp)) hb7
      have kP := Kept.on (kept (b := P) (o := .cells (quad p) 24 (0, 0)) (by go_simp)) hb7
      have b7 : Hid (Below W.heap.size W w7) := below_to (by repeat (first | exact Below.refl _ _ | exact below_new _ | exact b6.out | assumption | refine Below.drew ?_ | refine Below.drewN ?_ _ | refine below_alloc ?_ _ | refine below_blk' ?_ (by omega) _)) hb7
      clear hb7
      try clear gA lA nA mA
      obtain ⟨gA, lA, nA, mA⟩ := kA
      try clear gZ lZ nZ mZ
      obtain ⟨gZ, lZ, nZ, mZ⟩ := kZ
      try clear gB lB nB mB
      obtain ⟨gB, lB, nB, mB⟩ := kB
      try clear gP lP nP mP
      obtain ⟨gP, lP, nP, mP⟩ := kP
      clear b6
      go_wp2_with fail
      obtain ⟨Q, hQ⟩ : ∃ b, w7.heap.size = b := ⟨_, rfl⟩
      have wQ : W.heap.size ≤ Q := by rw [← hQ]; exact b7.out.size
      have eAQ : (W.heap.size = Q) = False := by rw [← hQ]; exact nA
      have eQA : (Q = W.heap.size) = False := by rw [← hQ]; exact mA
      have eZQ : (W.heap.size + 1 = Q) = False := by rw [← hQ]; exact nZ
      have eQZ : (Q = W.heap.size + 1) = False := by rw [← hQ]; exact mZ
      have eBQ : (B = Q) = False := by rw [← hQ]; exact nB
      have eQB : (Q = B) = False := by rw [← hQ]; exact mB
      have ePQ : (P = Q) = False := by rw [← hQ]; exact nP
      have eQP : (Q = P) = False := by rw [← hQ]; exact mP
      obtain ⟨w8, hw8⟩ : ∃ w8, w7.alloc (.cells (quad q) 24) = w8 := ⟨_, rfl⟩
      have kA := kept (show hget w8 (W.heap.size) = some (.cells (quad a) 24 (0, 0)) by rw [← hw8]; clear hw8; go_simp)
      have kZ := kept (show hget w8 (W.heap.size + 1) = some (.cells (quad 0) 24 (0, 0)) by rw [← hw8]; clear hw8; go_simp)
      have kB := kept (show hget w8 (B) = some (.cells (quad b) 24 (0, 0)) by rw [← hw8]; clear hw8; go_simp)
      have kP := kept (show hget w8 (P) = some (.cells (quad p) 24 (0, 0)) by rw [← hw8]; clear hw8; go_simp)
      have kQ := kept (show hget w8 (w7.heap.size) = some (.cells (quad q) 24) by rw [← hw8]; clear hw8; go_simp)
      have b8 : Hid (Below W.heap.size W w8) := by rw [← hw8]; repeat (first | exact Below.refl _ _ | exact below_new _ | exact b7.out | assumption | refine Below.drew ?_ | refine Below.drewN ?_ _ | refine below_alloc ?_ _ | refine below_blk' ?_ (by omega) _)
      rw [hw8]
      clear hw8
      try clear gA lA nA mA
      try clear jA
      have jA := kA.later
      obtain ⟨gA, lA, nA, mA⟩ := kA
      try clear gZ lZ nZ mZ
      try clear jZ
      have jZ := kZ.later
      obtain ⟨gZ, lZ, nZ, mZ⟩ := kZ
      try clear gB lB nB mB
      try clear jB
      have jB := kB.later
      obtain ⟨gB, lB, nB, mB⟩ := kB
      try clear gP lP nP mP
      try clear jP
      have jP := kP.later
      obtain ⟨gP, lP, nP, mP⟩ := kP
      try clear gQ lQ nQ mQ
      try clear jQ
      have jQ := kQ.later
      obtain ⟨gQ, lQ, nQ, mQ⟩ := kQ
      clear b7
      rw [hQ] at *
      clear hQ
      clear jA jZ jB jP jQ
      refine (hR3.out _).mono ?_
      rintro e w9 ⟨rfl, hb9⟩
      have kA := Kept.on (kept (b := W.heap.size) (o := .cells (quad a) 24 (0, 0)) (by go_simp)) hb9
      have kZ := Kept.on (kept (b := W.heap.size + 1) (o := .cells (quad 0) 24 (0, 0)) (by go_simp)) hb9
      have kB := Kept.on (kept (b := B) (o := .cells (quad b) 24 (0, 0)) (by go_simp)) hb9
      have kP := Kept.on (kept (b := P) (o := .cells (quad p) 24 (0, 0)) (by go_simp)) hb9
      have kQ := Kept.on (kept (b := Q) (o := .cells (quad q) 24 (0, 0)) (by go_simp)) hb9
      have b9 : Hid (Below W.heap.size W w9) := below_to (by repeat (first | exact Below.refl _ _ | exact below_new _ | exact b8.out | assumption | refine Below.drew ?_ | refine Below.drewN ?_ _ | refine below_alloc ?_ _ | refine below_blk' ?_ (by omega) _)) hb9
      clear hb9
      try clear gA lA nA mA
      obtain ⟨gA, lA, nA, mA⟩ := kA
      try clear gZ lZ nZ mZ
      obtain ⟨gZ, lZ, nZ, mZ⟩ := kZ
      try clear gB lB nB mB
      obtain ⟨gB, lB, nB, mB⟩ := kB
      try clear gP lP nP mP
      obtain ⟨gP, lP, nP, mP⟩ := kP
      try clear gQ lQ nQ mQ
      obtain ⟨gQ, lQ, nQ, mQ⟩ := kQ
      clear b8
      go_wp2_with fail
      obtain ⟨U, hU⟩ : ∃ b, w9.heap.size = b := ⟨_, rfl⟩
      have wU : W.heap.size ≤ U := by rw [← hU]; exact b9.out.size
      have eAU : (W.heap.size = U) = False := by rw [← hU]; exact nA
      have eUA : (U = W.heap.size) = False := by rw [← hU]; exact mA
      have eZU : (W.heap.size + 1 = U) = False := by rw [← hU]; exact nZ
      have eUZ : (U = W.heap.size + 1) = False := by rw [← hU]; exact mZ
      have eBU : (B = U) = False := by rw [← hU]; exact nB
      have eUB : (U = B) = False := by rw [← hU]; exact mB
      have ePU : (P = U) = False := by rw [← hU]; exact nP
      have eUP : (U = P) = False := by rw [← hU]; exact mP
      have eQU : (Q = U) = False := by rw [← hU]; exact nQ
      have eUQ : (U = Q) = False := by rw [← hU]; exact mQ
      obtain ⟨w10, hw10⟩ : ∃ w10, w9.alloc (.cells (quad u) 24) = w10 := ⟨_, rfl⟩
      have kA := kept (show hget w10 (W.heap.size) = some (.cells (quad a) 24 (0, 0)) by rw [← hw10]; clear hw10; go_simp)
      have kZ := kept (show hget w10 (W.heap.size + 1) = some (.cells (quad 0) 24 (0, 0)) by rw [← hw10]; clear hw10; go_simp)
      have kB := kept (show hget w10 (B) = some (.cells (quad b) 24 (0, 0)) by rw [← hw10]; clear hw10; go_simp)
      have kP := kept (show hget w10 (P) = some (.cells (quad p) 24 (0, 0)) by rw [← hw10]; clear hw10; go_simp)
      have kQ := kept (show hget w10 (Q) = some (.cells (quad q) 24 (0, 0)) by rw [← hw10]; clear hw10; go_simp)
      have kU := kept (show hget w10 (w9.heap.size) = some (.cells (quad u) 24) by rw [← hw10]; clear hw10; go_simp)
      have b10 : Hid (Below W.heap.size W w10) := by rw [← hw10]; repeat (first | exact Below.refl _ _ | exact below_new _ | exact b9.out | assumption | refine Below.drew ?_ | refine Below.drewN ?_ _ | refine below_alloc ?_ _ | refine below_blk' ?_ (by omega) _)
      rw [hw10]
      clear hw10
      try clear gA lA nA mA
      try clear jA
      have jA := kA.later
      obtain ⟨gA, lA, nA, mA⟩ := kA
      try clear gZ lZ nZ mZ
      try clear jZ
      have jZ := kZ.later
      obtain ⟨gZ, lZ, nZ, mZ⟩ := kZ
      try clear gB lB nB mB
      try clear jB
      have jB := kB.later
      obtain ⟨gB, lB, nB, mB⟩ := kB
      try clear gP lP nP mP
      try clear jP
      have jP := kP.later
      obtain ⟨gP, lP, nP, mP⟩ := kP
      try clear gQ lQ nQ mQ
      try clear jQ
      have jQ := kQ.later
      obtain ⟨gQ, lQ, nQ, mQ⟩ := kQ
      try clear gU lU nU mU
      try clear jU
      have jU := kU.later
      obtain ⟨gU, lU, nU, mU⟩ := kU
      clear b9
      rw [hU] at *
      clear hU
      refine (HS0.out _).mono ?_
      rintro e w11 ⟨rfl, hb11⟩
      have kA := Kept.on (kept (b := W.heap.size) (o := .cells (quad a) 24 (0, 0)) (by go_simp)) hb11
      have kZ := Kept.on (kept (b := W.heap.size + 1) (o := .cells (quad 0) 24 (0, 0)) (by go_simp)) hb11
      have kB := Kept.on (kept (b := B) (o := .cells (quad b) 24 (0, 0)) (by go_simp)) hb11
      have kP := Kept.on (kept (b := P) (o := .cells (quad p) 24 (0, 0)) (by go_simp)) hb11
      have kQ := Kept.on (kept (b := Q) (o := .cells (quad q) 24 (0, 0)) (by go_simp)) hb11
      have kU := Kept.on (kept (b := U) (o := .cells (quad u) 24 (0, 0)) (by go_simp)) hb11
      have b11 : Hid (Below W.heap.size W w11) := below_to (by repeat (first | exact Below.refl _ _ | exact below_new _ | exact b10.out | assumption | refine Below.drew ?_ | refine Below.drewN ?_ _ | refine below_alloc ?_ _ | refine below_blk' ?_ (by omega) _)) hb11
      clear hb11
      try clear gA lA nA mA
      obtain ⟨gA, lA, nA, mA⟩ := kA
      try clear gZ lZ nZ mZ
      obtain ⟨gZ, lZ, nZ, mZ⟩ := kZ
      try clear gB lB nB mB
      obtain ⟨gB, lB, nB, mB⟩ := kB
      try clear gP lP nP mP
      obtain ⟨gP, lP, nP, mP⟩ := kP
      try clear gQ lQ nQ mQ
      obtain ⟨gQ, lQ, nQ, mQ⟩ := kQ
      try clear gU lU nU mU
      obtain ⟨gU, lU, nU, mU⟩ := kU
      clear b10
      go_wp2_with fail
      obtain ⟨w12, hw12⟩ : ∃ w12, w11 = w12 := ⟨_, rfl⟩
      have kA := kept (show hget w12 (W.heap.size) = some (.cells (quad a) 24 (0, 0)) by rw [← hw12]; clear hw12; go_simp)
      have kZ := kept (show hget w12 (W.heap.size + 1) = some (.cells (quad 0) 24 (0, 0)) by rw [← hw12]; clear hw12; go_simp)
      have kB := kept (show hget w12 (B) = some (.cells (quad b) 24 (0, 0)) by rw [← hw12]; clear hw12; go_simp)
      have kP := kept (show hget w12 (P) = some (.cells (quad p) 24 (0, 0)) by rw [← hw12]; clear hw12; go_simp)
      have kQ := kept (show hget w12 (Q) = some (.cells (quad q) 24 (0, 0)) by rw [← hw12]; clear hw12; go_simp)
      have kU := kept (show hget w12 (U) = some (.cells (quad u) 24 (0, 0)) by rw [← hw12]; clear hw12; go_simp)
      have b12 : Hid (Below W.heap.size W w12) := by rw [← hw12]; repeat (first | exact Below.refl _ _ | exact below_new _ | exact b11.out | assumption | refine Below.drew ?_ | refine Below.drewN ?_ _ | refine below_alloc ?_ _ | refine below_blk' ?_ (by omega) _)
      rw [hw12]
      clear hw12
      try clear gA lA nA mA
      try clear jA
      have jA := kA.later
      obtain ⟨gA, lA, nA, mA⟩ := kA
      try clear gZ lZ nZ mZ
      try clear jZ
      have jZ := kZ.later
      obtain ⟨gZ, lZ, nZ, mZ⟩ := kZ
      try clear gB lB nB mB
      try clear jB
      have jB := kB.later
      obtain ⟨gB, lB, nB, mB⟩ := kB
      try clear gP lP nP mP
      try clear jP
      have jP := kP.later
      obtain ⟨gP, lP, nP, mP⟩ := kP
      try clear gQ lQ nQ mQ
      try clear jQ
      have jQ := kQ.later
      obtain ⟨gQ, lQ, nQ, mQ⟩ := kQ
      try clear gU lU nU mU
      try clear jU
      have jU := kU.later
      obtain ⟨gU, lU, nU, mU⟩ := kU
      clear b11
      refine wp_region_later (by kernel_rfl) (by kernel_rfl) ?_
      repeat ((go_big_quiet_step ((first | (go_at_call 20; first | with_reducible exact calls_later (HSp.out _) | with_reducible exact calls_later (HS1.out _) | with_reducible exact calls_later (HS2.out _) | with_reducible exact calls_later (HS3.out _) | with_reducible exact calls_later (HS4.out _)) | (go_at_call 26; first | with_reducible exact calls_later (hMp.out _) | with_reducible exact calls_later (hMq.out _) | with_reducible exact calls_later (hMu.out _)) | (go_at_call 22; with_reducible exact calls_later (hApq.out _)) | (go_at_call 21; first | with_reducible exact calls_later (HO1.out _) | with_reducible exact calls_later (HO2.out _) | with_reducible exact calls_later (HO3.out _))))))
      refine wpQuiet_nil ?_
      intro wL hwL
      obtain ⟨⟨w8, hL⟩, e8⟩ := hwL
      change wL = w8 at e8
      subst e8
      have bZ := hid (below_to b12.out hL)
      clear hL
      go_wp2_with fail
      go_ret
      exact ⟨rfl, bZ.out⟩


set_option maxHeartbeats 4000000 in
theorem laws_no (r s t : ByteArray) (W : World) (hr : r.size ≤ 9223372036854775807) (hs : s.size ≤ 9223372036854775807) (ht : t.size ≤ 9223372036854775807) (h : r.size ≠ 32 ∨ s.size ≠ 32 ∨ t.size ≠ 32) :
    Calls Try.prog 7 #[.string r, .string s, .string t] W fun e w' => e = .returned (.bool true) ∧ Below W.heap.size W w' := by
  have h1 := hid (fun w => Of_any r w hr)
  have h2 := hid (fun w => Of_any s w hs)
  have h3 := hid (fun w => Of_any t w ht)
  have hz : ((if r.size = 32 then (0 : Int) else 2) != 0) = true ∨ ((if r.size = 32 then (0 : Int) else 2) = 0 ∧ ((if s.size = 32 then (0 : Int) else 2) != 0) = true) ∨ ((if r.size = 32 then (0 : Int) else 2) = 0 ∧ (if s.size = 32 then (0 : Int) else 2) = 0 ∧ ((if t.size = 32 then (0 : Int) else 2) != 0) = true) := by
    by_cases hr : r.size = 32
    · right
      by_cases hs : s.size = 32
      · right
        rw [if_pos hr, if_pos hs, if_neg (by omega)]; exact ⟨rfl, rfl, by decide⟩
      · left; rw [if_pos hr, if_neg hs]; exact ⟨rfl, by decide⟩
    · left; rw [if_neg hr]; decide
  generalize (if r.size = 32 then bytesNat r.data.toList else 0) = a at *
  generalize (if s.size = 32 then bytesNat s.data.toList else 0) = b at *
  generalize (if t.size = 32 then bytesNat t.data.toList else 0) = c at *
  generalize (if r.size = 32 then (0 : Int) else 2) = e1 at *
  generalize (if s.size = 32 then (0 : Int) else 2) = e2 at *
  generalize (if t.size = 32 then (0 : Int) else 2) = e3 at *
  clear h
  go_enter Try.func7, Try.ntmps7
  go_wp2_with fail
  refine (h1.out _).mono ?_
  rintro e w1 ⟨rfl, hb1⟩
  have b1 : Hid (Below W.heap.size W w1) := below_to (by repeat (first | exact Below.refl _ _ | exact below_new _ | assumption | refine Below.drew ?_ | refine Below.drewN ?_ _ | refine below_alloc ?_ _ | refine below_blk' ?_ (by omega) _)) hb1
  clear hb1
  go_wp2_with fail
  obtain ⟨w2, hw2⟩ : ∃ w2, w1.alloc (.cells (quad a) 24) = w2 := ⟨_, rfl⟩
  have b2 : Hid (Below W.heap.size W w2) := by rw [← hw2]; repeat (first | exact Below.refl _ _ | exact below_new _ | exact b1.out | assumption | refine Below.drew ?_ | refine Below.drewN ?_ _ | refine below_alloc ?_ _ | refine below_blk' ?_ (by omega) _)
  rw [hw2]
  clear hw2
  clear b1
  refine (h2.out _).mono ?_
  rintro e w3 ⟨rfl, hb3⟩
  have b3 : Hid (Below W.heap.size W w3) := below_to (by repeat (first | exact Below.refl _ _ | exact below_new _ | exact b2.out | assumption | refine Below.drew ?_ | refine Below.drewN ?_ _ | refine below_alloc ?_ _ | refine below_blk' ?_ (by omega) _)) hb3
  clear hb3
  clear b2
  go_wp2_with fail
  obtain ⟨w4, hw4⟩ : ∃ w4, w3.alloc (.cells (quad b) 24) = w4 := ⟨_, rfl⟩
  have b4 : Hid (Below W.heap.size W w4) := by rw [← hw4]; repeat (first | exact Below.refl _ _ | exact below_new _ | exact b3.out | assumption | refine Below.drew ?_ | refine Below.drewN ?_ _ | refine below_alloc ?_ _ | refine below_blk' ?_ (by omega) _)
  rw [hw4]
  clear hw4
  clear b3
  refine (h3.out _).mono ?_
  rintro e w5 ⟨rfl, hb5⟩
  have b5 : Hid (Below W.heap.size W w5) := below_to (by repeat (first | exact Below.refl _ _ | exact below_new _ | exact b4.out | assumption | refine Below.drew ?_ | refine Below.drewN ?_ _ | refine below_alloc ?_ _ | refine below_blk' ?_ (by omega) _)) hb5
  clear hb5
  clear b4
  rcases hz with hz | ⟨rfl, hz⟩ | ⟨rfl, rfl, hz⟩
  · go_wp2_with fail
    obtain ⟨w6, hw6⟩ : ∃ w6, w5.alloc (.cells (quad c) 24) = w6 := ⟨_, rfl⟩
    have b6 : Hid (Below W.heap.size W w6) := by rw [← hw6]; repeat (first | exact Below.refl _ _ | exact below_new _ | exact b5.out | assumption | refine Below.drew ?_ | refine Below.drewN ?_ _ | refine below_alloc ?_ _ | refine below_blk' ?_ (by omega) _)
    rw [hw6]
    clear hw6
    clear b5
    refine (alive_any _).mono ?_
    rintro e w7 ⟨rfl, hb7⟩
    have b7 : Hid (Below W.heap.size W w7) := below_to (by repeat (first | exact Below.refl _ _ | exact below_new _ | exact b6.out | assumption | refine Below.drew ?_ | refine Below.drewN ?_ _ | refine below_alloc ?_ _ | refine below_blk' ?_ (by omega) _)) hb7
    clear hb7
    clear b6
    go_wp2_with fail
    go_ret
    exact ⟨rfl, b7.out⟩
  · go_wp2_with fail
    obtain ⟨w6, hw6⟩ : ∃ w6, w5.alloc (.cells (quad c) 24) = w6 := ⟨_, rfl⟩
    have b6 : Hid (Below W.heap.size W w6) := by rw [← hw6]; repeat (first | exact Below.refl _ _ | exact below_new _ | exact b5.out | assumption | refine Below.drew ?_ | refine Below.drewN ?_ _ | refine below_alloc ?_ _ | refine below_blk' ?_ (by omega) _)
    rw [hw6]
    clear hw6
    clear b5
    refine (alive_any _).mono ?_
    rintro e w7 ⟨rfl, hb7⟩
    have b7 : Hid (Below W.heap.size W w7) := below_to (by repeat (first | exact Below.refl _ _ | exact below_new _ | exact b6.out | assumption | refine Below.drew ?_ | refine Below.drewN ?_ _ | refine below_alloc ?_ _ | refine below_blk' ?_ (by omega) _)) hb7
    clear hb7
    clear b6
    go_wp2_with fail
    go_ret
    exact ⟨rfl, b7.out⟩
  · go_wp2_with fail
    obtain ⟨w6, hw6⟩ : ∃ w6, w5.alloc (.cells (quad c) 24) = w6 := ⟨_, rfl⟩
    have b6 : Hid (Below W.heap.size W w6) := by rw [← hw6]; repeat (first | exact Below.refl _ _ | exact below_new _ | exact b5.out | assumption | refine Below.drew ?_ | refine Below.drewN ?_ _ | refine below_alloc ?_ _ | refine below_blk' ?_ (by omega) _)
    rw [hw6]
    clear hw6
    clear b5
    refine (alive_any _).mono ?_
    rintro e w7 ⟨rfl, hb7⟩
    have b7 : Hid (Below W.heap.size W w7) := below_to (by repeat (first | exact Below.refl _ _ | exact below_new _ | exact b6.out | assumption | refine Below.drew ?_ | refine Below.drewN ?_ _ | refine below_alloc ?_ _ | refine below_blk' ?_ (by omega) _)) hb7
    clear hb7
    clear b6
    go_wp2_with fail
    go_ret
    exact ⟨rfl, b7.out⟩

end Go.Proofs.Ytoaihbmicdbaiaa
