/- The law NumRows: the walk. -/
import Derived.Test.YtoaihbmicdbaiaaNumL2
namespace Go.Proofs.Ytoaihbmicdbaiaa
open Go.RowKit DG
attribute [local go_sem ↓] exl_Elem exs_Elem exl_Num exs_Num
                 attribute [local go_sem] ldr_Elem str_Elem ldr_Num str_Num
attribute [local go_sem] to_quad0 to_nine0

/-- The steps in memory. -/
def StepsAt (w : World) (a : Option Addr) (len : Nat) (ds : Nat → Int) (ss : Nat → ByteArray) : Prop :=
  len = 0 ∨ ∃ b off, a = some ⟨b, off, none⟩ ∧ b < w.heap.size ∧ ∀ k, k < len → w.cell? ⟨b, off + k * 2, none⟩ = some (.int .u8 (ds k)) ∧ w.cell? ⟨b, off + k * 2 + 1, none⟩ = some (.string (ss k)) ∧ (ss k).size ≤ 9223372036854775807

set_option maxHeartbeats 2000000 in
theorem rows_bad (s : ByteArray) (a : Option Addr) (len cap : Nat) (W : World) (hmax : s.size ≤ 9223372036854775807) (h : s.size ≠ 32 ∨ 100 < len) (hlen : len ≤ 9223372036854775807) : Calls Try.prog 6 #[.string s, .slice a len cap] W fun e w' => e = .returned (.bool true) ∧ Below W.heap.size W w' := by
  by_cases h1 : s.size = 32
  · have hof := hid (fun w => Of_32 s w h1)
    have hd : decide (100 < (len : Int)) = true := decide_eq_true (by omega)
    generalize bytesNat s.data.toList = a at *
    clear h h1
    go_enter Try.func6, Try.ntmps6
    go_wp2_with fail
    refine (hof.out _).mono ?_
    rintro e w1 ⟨rfl, hb1⟩
    have b1 : Hid (Below W.heap.size W w1) := below_to (by repeat (first | exact Below.refl _ _ | exact below_new _ | assumption | refine Below.drew ?_ | refine Below.drewN ?_ _ | refine below_alloc ?_ _ | refine below_blk' ?_ (by omega) _)) hb1
    clear hb1
    go_wp2_with fail
    obtain ⟨w2, hw2⟩ : ∃ w2, w1.alloc (.cells (quad a) 24) = w2 := ⟨_, rfl⟩
    have b2 : Hid (Below W.heap.size W w2) := by rw [← hw2]; repeat (first | exact Below.refl _ _ | exact below_new _ | exact b1.out | assumption | refine Below.drew ?_ | refine Below.drewN ?_ _ | refine below_alloc ?_ _ | refine below_blk' ?_ (by omega) _)
    rw [hw2]
    clear hw2
    clear b1
    refine (alive_any _).mono ?_
    rintro e w3 ⟨rfl, hb3⟩
    have b3 : Hid (Below W.heap.size W w3) := below_to (by repeat (first | exact Below.refl _ _ | exact below_new _ | exact b2.out | assumption | refine Below.drew ?_ | refine Below.drewN ?_ _ | refine below_alloc ?_ _ | refine below_blk' ?_ (by omega) _)) hb3
    clear hb3
    clear b2
    go_wp2_with fail
    go_ret
    exact ⟨rfl, b3.out⟩
  · have hof := hid (fun w => Of_no s w h1 hmax)
    clear h h1
    go_enter Try.func6, Try.ntmps6
    go_wp2_with fail
    refine (hof.out _).mono ?_
    rintro e w1 ⟨rfl, hb1⟩
    have b1 : Hid (Below W.heap.size W w1) := below_to (by repeat (first | exact Below.refl _ _ | exact below_new _ | assumption | refine Below.drew ?_ | refine Below.drewN ?_ _ | refine below_alloc ?_ _ | refine below_blk' ?_ (by omega) _)) hb1
    clear hb1
    go_wp2_with fail
    obtain ⟨w2, hw2⟩ : ∃ w2, w1.alloc (.cells (quad 0) 24) = w2 := ⟨_, rfl⟩
    have b2 : Hid (Below W.heap.size W w2) := by rw [← hw2]; repeat (first | exact Below.refl _ _ | exact below_new _ | exact b1.out | assumption | refine Below.drew ?_ | refine Below.drewN ?_ _ | refine below_alloc ?_ _ | refine below_blk' ?_ (by omega) _)
    rw [hw2]
    clear hw2
    clear b1
    refine (alive_any _).mono ?_
    rintro e w3 ⟨rfl, hb3⟩
    have b3 : Hid (Below W.heap.size W w3) := below_to (by repeat (first | exact Below.refl _ _ | exact below_new _ | exact b2.out | assumption | refine Below.drew ?_ | refine Below.drewN ?_ _ | refine below_alloc ?_ _ | refine below_blk' ?_ (by omega) _)) hb3
    clear hb3
    clear b2
    go_wp2_with fail
    go_ret
    exact ⟨rfl, b3.out⟩

set_option maxRecDepth 100000 in
set_option maxHeartbeats 4000000 in
theorem rows_ok (s : ByteArray) (ad : Option Addr) (len cap : Nat) (ds : Nat → Int) (ss : Nat → ByteArray) (W : World) (h : s.size = 32) (hlen : len ≤ 100) (hst : StepsAt W ad len ds ss) : Calls Try.prog 6 #[.string s, .slice ad len cap] W fun e w' => e = .returned (.bool true) ∧ Below W.heap.size W w' := by
  have hof := hid (fun w => Of_32 s w h)
  have hro := hid (fun w => ref_Of s w (by omega))
  have hd : decide (100 < (len : Int)) = false := decide_eq_false (by omega)
  have lp0 := bytes32_lt h
  generalize bytesNat s.data.toList = p0 at *
  have HST := hid hst
  clear h hst
  go_enter Try.func6, Try.ntmps6
  go_wp2_with fail
  refine (hof.out _).mono ?_
  rintro e w1 ⟨rfl, hb1⟩
  have b1 : Hid (Below W.heap.size W w1) := below_to (by repeat (first | exact Below.refl _ _ | exact below_new _ | assumption | refine Below.drew ?_ | refine Below.drewN ?_ _ | refine below_alloc ?_ _ | refine below_blk' ?_ (by omega) _)) hb1
  clear hb1
  go_wp2_with fail
  have hWA := b1.out.size
  obtain ⟨w2, hw2⟩ : ∃ w2, w1.alloc (.cells (quad p0) 24) = w2 := ⟨_, rfl⟩
  have kA := kept (show hget w2 (w1.heap.size) = some (.cells (quad p0) 24 (0, 0)) by rw [← hw2]; clear hw2; go_simp)
  have b2 : Hid (Below W.heap.size W w2) := by rw [← hw2]; repeat (first | exact Below.refl _ _ | exact below_new _ | exact b1.out | assumption | refine Below.drew ?_ | refine Below.drewN ?_ _ | refine below_alloc ?_ _ | refine below_blk' ?_ (by omega) _)
  rw [hw2]
  clear hw2
  try clear gA lA nA mA
  try clear jA
  have jA := kA.later
  obtain ⟨gA, lA, nA, mA⟩ := kA
  clear b1
  clear jA
  generalize w1.heap.size = A at *
  refine (hro.out _).mono ?_
  rintro e w3 ⟨rfl, hb3⟩
  have kA := Kept.on (kept (b := A) (o := .cells (quad p0) 24 (0, 0)) (by go_simp)) hb3
  have b3 : Hid (Below W.heap.size W w3) := below_to (by repeat (first | exact Below.refl _ _ | exact below_new _ | exact b2.out | assumption | refine Below.drew ?_ | refine Below.drewN ?_ _ | refine below_alloc ?_ _ | refine below_blk' ?_ (by omega) _)) hb3
  clear hb3
  try clear gA lA nA mA
  obtain ⟨gA, lA, nA, mA⟩ := kA
  clear b2
  go_wp2_with fail
  obtain ⟨C, hC⟩ : ∃ b, w3.heap.size = b := ⟨_, rfl⟩
  have wC : W.heap.size ≤ C := by rw [← hC]; exact b3.out.size
  have eAC : (A = C) = False := by rw [← hC]; exact nA
  have eCA : (C = A) = False := by rw [← hC]; exact mA
  obtain ⟨w4, hw4⟩ : ∃ w4, w3.alloc (.cells (nine (p0 % pP)) 30) = w4 := ⟨_, rfl⟩
  have kA := kept (show hget w4 (A) = some (.cells (quad p0) 24 (0, 0)) by rw [← hw4]; clear hw4; go_simp)
  have kC := kept (show hget w4 (w3.heap.size) = some (.cells (nine (p0 % pP)) 30) by rw [← hw4]; clear hw4; go_simp)
  have b4 : Hid (Below W.heap.size W w4) := by rw [← hw4]; repeat (first | exact Below.refl _ _ | exact below_new _ | exact b3.out | assumption | refine Below.drew ?_ | refine Below.drewN ?_ _ | refine below_alloc ?_ _ | refine below_blk' ?_ (by omega) _)
  rw [hw4]
  clear hw4
  try clear gA lA nA mA
  try clear jA
  have jA := kA.later
  obtain ⟨gA, lA, nA, mA⟩ := kA
  try clear gC lC nC mC
  try clear jC
  have jC := kC.later
  obtain ⟨gC, lC, nC, mC⟩ := kC
  clear b3
  rw [hC] at *
  clear hC
  clear jA jC
  go_loopw [8] (fun i wr => ∃ (k p : Nat), k ≤ len ∧ i = .int .i64 (k : Int) ∧ p < p2 ∧ hget wr A = some (.cells (quad p) 24 (0, 0)) ∧ hget wr C = some (.cells (nine (p % pP)) 30 (0, 0)) ∧ Hid (Below W.heap.size W wr)) (fun i _ => (len - intOf i).toNat)
  case atStart => exact ⟨0, p0, by omega, rfl, lp0, gA, gC, b4⟩
  case round =>
    clear gA gC lA lC nA nC mA mC b4 lp0
    obtain ⟨k, p, hk, rfl, lp, qA, qC, qb⟩ := hrel
    obtain ⟨gA, lA, nA, mA⟩ := kept qA
    obtain ⟨gC, lC, nC, mC⟩ := kept qC
    clear qA qC
    by_cases hkl : k < len
    · have hkd : decide ((k : Int) < len) = true := decide_eq_true (by omega)
      obtain h0 | ⟨bk, off, rfl, hbW, hcs⟩ := HST.out
      · omega
      obtain ⟨c0, c1, hsz⟩ := hcs k hkl
      obtain ⟨d, hdd⟩ : ∃ d, ds k = d := ⟨_, rfl⟩
      obtain ⟨t, htt⟩ : ∃ t, ss k = t := ⟨_, rfl⟩
      rw [hdd] at c0
      rw [htt] at c1 hsz
      have C0 := hid c0
      have cS := (qb.out.cell (p := ⟨bk, off + k * 2 + 1, none⟩) hbW).trans c1
      have hi0 : 0 ≤ (k : Int) := by omega
      have hi1 : (k : Int) < len := by omega
      have C1 := hid c1
      clear c0 c1 hdd htt hcs
      have hcp : p % pP < pP := Nat.mod_lt _ (by decide)
      by_cases h32 : t.size = 32
      · have hoft := hid (fun w => Of_32 t w h32)
        have hrot := hid (fun w => ref_Of t w (by omega))
        have hlv := bytes32_lt h32
        generalize bytesNat t.data.toList = v at *
        have hcv : v % pP < pP := Nat.mod_lt _ (by decide)
        clear h32
        go_wp2_with fail
        refine (hoft.out _).mono ?_
        rintro e w11 ⟨rfl, hb11⟩
        have kA := Kept.on (kept (b := A) (o := .cells (quad p) 24 (0, 0)) (by go_simp)) hb11
        have kC := Kept.on (kept (b := C) (o := .cells (nine (p % pP)) 30 (0, 0)) (by go_simp)) hb11
        have b11 : Hid (Below W.heap.size W w11) := below_to (by repeat (first | exact Below.refl _ _ | exact below_new _ | exact qb.out | assumption | refine Below.drew ?_ | refine Below.drewN ?_ _ | refine below_alloc ?_ _ | refine below_blk' ?_ (by omega) _)) hb11
        clear hb11
        try clear gA lA nA mA
        obtain ⟨gA, lA, nA, mA⟩ := kA
        try clear gC lC nC mC
        obtain ⟨gC, lC, nC, mC⟩ := kC
        clear qb
        clear cS
        go_upto_region 9 with (fail)
        obtain ⟨B, hB⟩ : ∃ b, w11.heap.size = b := ⟨_, rfl⟩
        have wB : W.heap.size ≤ B := by rw [← hB]; exact b11.out.size
        have eAB : (A = B) = False := by rw [← hB]; exact nA
        have eBA : (B = A) = False := by rw [← hB]; exact mA
        have eCB : (C = B) = False := by rw [← hB]; exact nC
        have eBC : (B = C) = False := by rw [← hB]; exact mC
        obtain ⟨w12, hw12⟩ : ∃ w12, w11.alloc (.cells (quad v) 24) = w12 := ⟨_, rfl⟩
        have kA := kept (show hget w12 (A) = some (.cells (quad p) 24 (0, 0)) by rw [← hw12]; clear hw12; go_simp)
        have kC := kept (show hget w12 (C) = some (.cells (nine (p % pP)) 30 (0, 0)) by rw [← hw12]; clear hw12; go_simp)
        have kB := kept (show hget w12 (w11.heap.size) = some (.cells (quad v) 24) by rw [← hw12]; clear hw12; go_simp)
        have b12 : Hid (Below W.heap.size W w12) := by rw [← hw12]; repeat (first | exact Below.refl _ _ | exact below_new _ | exact b11.out | assumption | refine Below.drew ?_ | refine Below.drewN ?_ _ | refine below_alloc ?_ _ | refine below_blk' ?_ (by omega) _)
        rw [hw12]
        clear hw12
        try clear gA lA nA mA
        try clear jA
        have jA := kA.later
        obtain ⟨gA, lA, nA, mA⟩ := kA
        try clear gC lC nC mC
        try clear jC
        have jC := kC.later
        obtain ⟨gC, lC, nC, mC⟩ := kC
        try clear gB lB nB mB
        try clear jB
        have jB := kB.later
        obtain ⟨gB, lB, nB, mB⟩ := kB
        clear b11
        rw [hB] at *
        clear hB
        clear jA jB jC
        go_upto_region 10 with (fail)
        obtain ⟨D, hD⟩ : ∃ b, w12.heap.size = b := ⟨_, rfl⟩
        have wD : W.heap.size ≤ D := by rw [← hD]; exact b12.out.size
        have eAD : (A = D) = False := by rw [← hD]; exact nA
        have eDA : (D = A) = False := by rw [← hD]; exact mA
        have eCD : (C = D) = False := by rw [← hD]; exact nC
        have eDC : (D = C) = False := by rw [← hD]; exact mC
        have eBD : (B = D) = False := by rw [← hD]; exact nB
        have eDB : (D = B) = False := by rw [← hD]; exact mB
        obtain ⟨w13, hw13⟩ : ∃ w13, w12.alloc (.cells (nine 0) 30) = w13 := ⟨_, rfl⟩
        have kA := kept (show hget w13 (A) = some (.cells (quad p) 24 (0, 0)) by rw [← hw13]; clear hw13; go_simp)
        have kC := kept (show hget w13 (C) = some (.cells (nine (p % pP)) 30 (0, 0)) by rw [← hw13]; clear hw13; go_simp)
        have kB := kept (show hget w13 (B) = some (.cells (quad v) 24 (0, 0)) by rw [← hw13]; clear hw13; go_simp)
        have kD := kept (show hget w13 (w12.heap.size) = some (.cells (nine 0) 30) by rw [← hw13]; clear hw13; go_simp)
        have b13 : Hid (Below W.heap.size W w13) := by rw [← hw13]; repeat (first | exact Below.refl _ _ | exact below_new _ | exact b12.out | assumption | refine Below.drew ?_ | refine Below.drewN ?_ _ | refine below_alloc ?_ _ | refine below_blk' ?_ (by omega) _)
        rw [hw13]
        clear hw13
        try clear gA lA nA mA
        try clear jA
        have jA := kA.later
        obtain ⟨gA, lA, nA, mA⟩ := kA
        try clear gC lC nC mC
        try clear jC
        have jC := kC.later
        obtain ⟨gC, lC, nC, mC⟩ := kC
        try clear gB lB nB mB
        try clear jB
        have jB := kB.later
        obtain ⟨gB, lB, nB, mB⟩ := kB
        try clear gD lD nD mD
        try clear jD
        have jD := kD.later
        obtain ⟨gD, lD, nD, mD⟩ := kD
        clear b12
        rw [hD] at *
        clear hD
        clear jA jB jC jD
        have cS := (b13.out.cell (p := ⟨bk, off + k * 2 + 1, none⟩) hbW).trans C1.out
        go_wp2_with fail
        refine (hrot.out _).mono ?_
        rintro e w14 ⟨rfl, hb14⟩
        have kA := Kept.on (kept (b := A) (o := .cells (quad p) 24 (0, 0)) (by go_simp)) hb14
        have kC := Kept.on (kept (b := C) (o := .cells (nine (p % pP)) 30 (0, 0)) (by go_simp)) hb14
        have kB := Kept.on (kept (b := B) (o := .cells (quad v) 24 (0, 0)) (by go_simp)) hb14
        have kD := Kept.on (kept (b := D) (o := .cells (nine 0) 30 (0, 0)) (by go_simp)) hb14
        have b14 : Hid (Below W.heap.size W w14) := below_to (by repeat (first | exact Below.refl _ _ | exact below_new _ | exact b13.out | assumption | refine Below.drew ?_ | refine Below.drewN ?_ _ | refine below_alloc ?_ _ | refine below_blk' ?_ (by omega) _)) hb14
        clear hb14
        try clear gA lA nA mA
        obtain ⟨gA, lA, nA, mA⟩ := kA
        try clear gC lC nC mC
        obtain ⟨gC, lC, nC, mC⟩ := kC
        try clear gB lB nB mB
        obtain ⟨gB, lB, nB, mB⟩ := kB
        try clear gD lD nD mD
        obtain ⟨gD, lD, nD, mD⟩ := kD
        clear b13
        clear cS
        go_upto_region 12 with (fail)
        obtain ⟨w18, hw18⟩ : ∃ w18, blk w14 D (.cells (nine (v % pP)) 30 (0, 0)) = w18 := ⟨_, rfl⟩
        have kA := kept (show hget w18 (A) = some (.cells (quad p) 24 (0, 0)) by rw [← hw18]; clear hw18; go_simp)
        have kC := kept (show hget w18 (C) = some (.cells (nine (p % pP)) 30 (0, 0)) by rw [← hw18]; clear hw18; go_simp)
        have kB := kept (show hget w18 (B) = some (.cells (quad v) 24 (0, 0)) by rw [← hw18]; clear hw18; go_simp)
        have kD := kept (show hget w18 (D) = some (.cells (nine (v % pP)) 30 (0, 0)) by rw [← hw18]; clear hw18; go_simp)
        have b18 : Hid (Below W.heap.size W w18) := by rw [← hw18]; repeat (first | exact Below.refl _ _ | exact below_new _ | exact b14.out | assumption | refine Below.drew ?_ | refine Below.drewN ?_ _ | refine below_alloc ?_ _ | refine below_blk' ?_ (by omega) _)
        rw [hw18]
        clear hw18
        try clear gA lA nA mA
        try clear jA
        have jA := kA.later
        obtain ⟨gA, lA, nA, mA⟩ := kA
        try clear gC lC nC mC
        try clear jC
        have jC := kC.later
        obtain ⟨gC, lC, nC, mC⟩ := kC
        try clear gB lB nB mB
        try clear jB
        have jB := kB.later
        obtain ⟨gB, lB, nB, mB⟩ := kB
        try clear gD lD nD mD
        try clear jD
        have jD := kD.later
        obtain ⟨gD, lD, nD, mD⟩ := kD
        clear b14
        clear jA jB jC jD
        have lv := hlv
        have cD := (b18.out.cell (p := ⟨bk, off + k * 2, none⟩) hbW).trans C0.out
        by_cases d1 : d = 1
        · have t1 : (d == 1) = true := by rw [d1]; rfl
          obtain ⟨p1, hp1⟩ : ∃ p1, subN p v = p1 := ⟨_, rfl⟩
          have e1 := fun w => sub_any p v w lp lv
          have e2 := fun w => ref_Sub (p % pP) (v % pP) w hcp (Nat.le_of_lt hcv)
          have l1 := sub_lt lp lv
          have r1 := sub_mod2 lp lv
          rw [hp1] at e1 l1 r1
          rw [← r1] at e2
          have E1 := hid e1
          have E2 := hid e2
          have his := hid (fun w => is_any p1 (p1 % pP) w l1 rfl)
          clear e1 e2 r1 hp1
          go_wp2_with fail
          refine (E1.out _).mono ?_
          rintro e w21 ⟨rfl, hb21⟩
          have kC := Kept.on (kept (b := C) (o := .cells (nine (p % pP)) 30 (0, 0)) (by go_simp)) hb21
          have kB := Kept.on (kept (b := B) (o := .cells (quad v) 24 (0, 0)) (by go_simp)) hb21
          have kD := Kept.on (kept (b := D) (o := .cells (nine (v % pP)) 30 (0, 0)) (by go_simp)) hb21
          have kA := Kept.on (kept (b := A) (o := .cells (quad p) 24 (0, 0)) (by go_simp)) hb21
          have b21 : Hid (Below W.heap.size W w21) := below_to (by repeat (first | exact Below.refl _ _ | exact below_new _ | exact b18.out | assumption | refine Below.drew ?_ | refine Below.drewN ?_ _ | refine below_alloc ?_ _ | refine below_blk' ?_ (by omega) _)) hb21
          clear hb21
          try clear gC lC nC mC
          obtain ⟨gC, lC, nC, mC⟩ := kC
          try clear gB lB nB mB
          obtain ⟨gB, lB, nB, mB⟩ := kB
          try clear gD lD nD mD
          obtain ⟨gD, lD, nD, mD⟩ := kD
          try clear gA lA nA mA
          obtain ⟨gA, lA, nA, mA⟩ := kA
          clear b18
          go_wp2_with fail
          obtain ⟨w22, hw22⟩ : ∃ w22, blk w21 A (.cells (quad p1) 24 (0, 0)) = w22 := ⟨_, rfl⟩
          have kA := kept (show hget w22 (A) = some (.cells (quad p1) 24 (0, 0)) by rw [← hw22]; clear hw22; go_simp)
          have kC := kept (show hget w22 (C) = some (.cells (nine (p % pP)) 30 (0, 0)) by rw [← hw22]; clear hw22; go_simp)
          have kB := kept (show hget w22 (B) = some (.cells (quad v) 24 (0, 0)) by rw [← hw22]; clear hw22; go_simp)
          have kD := kept (show hget w22 (D) = some (.cells (nine (v % pP)) 30 (0, 0)) by rw [← hw22]; clear hw22; go_simp)
          have b22 : Hid (Below W.heap.size W w22) := by rw [← hw22]; repeat (first | exact Below.refl _ _ | exact below_new _ | exact b21.out | assumption | refine Below.drew ?_ | refine Below.drewN ?_ _ | refine below_alloc ?_ _ | refine below_blk' ?_ (by omega) _)
          rw [hw22]
          clear hw22
          try clear gA lA nA mA
          try clear jA
          have jA := kA.later
          obtain ⟨gA, lA, nA, mA⟩ := kA
          try clear gC lC nC mC
          try clear jC
          have jC := kC.later
          obtain ⟨gC, lC, nC, mC⟩ := kC
          try clear gB lB nB mB
          try clear jB
          have jB := kB.later
          obtain ⟨gB, lB, nB, mB⟩ := kB
          try clear gD lD nD mD
          try clear jD
          have jD := kD.later
          obtain ⟨gD, lD, nD, mD⟩ := kD
          clear b21
          clear jA jB jC jD
          refine (E2.out _).mono ?_
          rintro e w23 ⟨rfl, hb23⟩
          have kA := Kept.on (kept (b := A) (o := .cells (quad p1) 24 (0, 0)) (by go_simp)) hb23
          have kC := Kept.on (kept (b := C) (o := .cells (nine (p % pP)) 30 (0, 0)) (by go_simp)) hb23
          have b23 : Hid (Below W.heap.size W w23) := below_to (by repeat (first | exact Below.refl _ _ | exact below_new _ | exact b22.out | assumption | refine Below.drew ?_ | refine Below.drewN ?_ _ | refine below_alloc ?_ _ | refine below_blk' ?_ (by omega) _)) hb23
          clear hb23
          try clear gA lA nA mA
          obtain ⟨gA, lA, nA, mA⟩ := kA
          try clear gC lC nC mC
          obtain ⟨gC, lC, nC, mC⟩ := kC
          clear b22
          clear gB gD lB lD nB nD mB mD
          by_cases h7 : k % 7 = 6
          · have hm : (((k : Int) % 7) == 6) = true := by rw [beq_iff_eq]; omega
            go_wp2_with fail
            obtain ⟨w24, hw24⟩ : ∃ w24, blk w23 C (.cells (nine (p1 % pP)) 30 (0, 0)) = w24 := ⟨_, rfl⟩
            have kA := kept (show hget w24 (A) = some (.cells (quad p1) 24 (0, 0)) by rw [← hw24]; clear hw24; go_simp)
            have kC := kept (show hget w24 (C) = some (.cells (nine (p1 % pP)) 30 (0, 0)) by rw [← hw24]; clear hw24; go_simp)
            have b24 : Hid (Below W.heap.size W w24) := by rw [← hw24]; repeat (first | exact Below.refl _ _ | exact below_new _ | exact b23.out | assumption | refine Below.drew ?_ | refine Below.drewN ?_ _ | refine below_alloc ?_ _ | refine below_blk' ?_ (by omega) _)
            rw [hw24]
            clear hw24
            try clear gA lA nA mA
            try clear jA
            have jA := kA.later
            obtain ⟨gA, lA, nA, mA⟩ := kA
            try clear gC lC nC mC
            try clear jC
            have jC := kC.later
            obtain ⟨gC, lC, nC, mC⟩ := kC
            clear b23
            clear jA jC
            refine (his.out _).mono ?_
            rintro e w25 ⟨rfl, hb25⟩
            have kA := Kept.on (kept (b := A) (o := .cells (quad p1) 24 (0, 0)) (by go_simp)) hb25
            have kC := Kept.on (kept (b := C) (o := .cells (nine (p1 % pP)) 30 (0, 0)) (by go_simp)) hb25
            have b25 : Hid (Below W.heap.size W w25) := below_to (by repeat (first | exact Below.refl _ _ | exact below_new _ | exact b24.out | assumption | refine Below.drew ?_ | refine Below.drewN ?_ _ | refine below_alloc ?_ _ | refine below_blk' ?_ (by omega) _)) hb25
            clear hb25
            try clear gA lA nA mA
            obtain ⟨gA, lA, nA, mA⟩ := kA
            try clear gC lC nC mC
            obtain ⟨gC, lC, nC, mC⟩ := kC
            clear b24
            go_wp2_with fail
            exact ⟨⟨k + 1, p1, by omega, by go_num, l1, gA, gC, b25⟩, by simp [intOf]; omega⟩
          · have hm : (((k : Int) % 7) == 6) = false := by rw [beq_eq_false_iff_ne]; omega
            go_wp2_with fail
            exact ⟨⟨k + 1, p1, by omega, by go_num, l1, by go_simp, by go_simp, hid (below_blk' b23.out wC _)⟩, by simp [intOf]; omega⟩
        · have t1 : (d == 1) = false := by rw [beq_eq_false_iff_ne]; exact d1
          by_cases d2 : d = 2
          · have t2 : (d == 2) = true := by rw [d2]; rfl
            obtain ⟨p1, hp1⟩ : ∃ p1, mulN p v = p1 := ⟨_, rfl⟩
            have e1 := fun w => mul_any p v w lp lv
            have e2 := fun w => ref_Mul (p % pP) (v % pP) w hcp hcv
            have l1 := mul_lt lp lv
            have r1 := mm p v
            rw [hp1] at e1 l1 r1
            rw [← r1] at e2
            have E1 := hid e1
            have E2 := hid e2
            have his := hid (fun w => is_any p1 (p1 % pP) w l1 rfl)
            clear e1 e2 r1 hp1
            go_wp2_with fail
            refine (E1.out _).mono ?_
            rintro e w21 ⟨rfl, hb21⟩
            have kC := Kept.on (kept (b := C) (o := .cells (nine (p % pP)) 30 (0, 0)) (by go_simp)) hb21
            have kB := Kept.on (kept (b := B) (o := .cells (quad v) 24 (0, 0)) (by go_simp)) hb21
            have kD := Kept.on (kept (b := D) (o := .cells (nine (v % pP)) 30 (0, 0)) (by go_simp)) hb21
            have kA := Kept.on (kept (b := A) (o := .cells (quad p) 24 (0, 0)) (by go_simp)) hb21
            have b21 : Hid (Below W.heap.size W w21) := below_to (by repeat (first | exact Below.refl _ _ | exact below_new _ | exact b18.out | assumption | refine Below.drew ?_ | refine Below.drewN ?_ _ | refine below_alloc ?_ _ | refine below_blk' ?_ (by omega) _)) hb21
            clear hb21
            try clear gC lC nC mC
            obtain ⟨gC, lC, nC, mC⟩ := kC
            try clear gB lB nB mB
            obtain ⟨gB, lB, nB, mB⟩ := kB
            try clear gD lD nD mD
            obtain ⟨gD, lD, nD, mD⟩ := kD
            try clear gA lA nA mA
            obtain ⟨gA, lA, nA, mA⟩ := kA
            clear b18
            go_wp2_with fail
            obtain ⟨w22, hw22⟩ : ∃ w22, blk w21 A (.cells (quad p1) 24 (0, 0)) = w22 := ⟨_, rfl⟩
            have kA := kept (show hget w22 (A) = some (.cells (quad p1) 24 (0, 0)) by rw [← hw22]; clear hw22; go_simp)
            have kC := kept (show hget w22 (C) = some (.cells (nine (p % pP)) 30 (0, 0)) by rw [← hw22]; clear hw22; go_simp)
            have kB := kept (show hget w22 (B) = some (.cells (quad v) 24 (0, 0)) by rw [← hw22]; clear hw22; go_simp)
            have kD := kept (show hget w22 (D) = some (.cells (nine (v % pP)) 30 (0, 0)) by rw [← hw22]; clear hw22; go_simp)
            have b22 : Hid (Below W.heap.size W w22) := by rw [← hw22]; repeat (first | exact Below.refl _ _ | exact below_new _ | exact b21.out | assumption | refine Below.drew ?_ | refine Below.drewN ?_ _ | refine below_alloc ?_ _ | refine below_blk' ?_ (by omega) _)
            rw [hw22]
            clear hw22
            try clear gA lA nA mA
            try clear jA
            have jA := kA.later
            obtain ⟨gA, lA, nA, mA⟩ := kA
            try clear gC lC nC mC
            try clear jC
            have jC := kC.later
            obtain ⟨gC, lC, nC, mC⟩ := kC
            try clear gB lB nB mB
            try clear jB
            have jB := kB.later
            obtain ⟨gB, lB, nB, mB⟩ := kB
            try clear gD lD nD mD
            try clear jD
            have jD := kD.later
            obtain ⟨gD, lD, nD, mD⟩ := kD
            clear b21
            clear jA jB jC jD
            refine (E2.out _).mono ?_
            rintro e w23 ⟨rfl, hb23⟩
            have kA := Kept.on (kept (b := A) (o := .cells (quad p1) 24 (0, 0)) (by go_simp)) hb23
            have kC := Kept.on (kept (b := C) (o := .cells (nine (p % pP)) 30 (0, 0)) (by go_simp)) hb23
            have b23 : Hid (Below W.heap.size W w23) := below_to (by repeat (first | exact Below.refl _ _ | exact below_new _ | exact b22.out | assumption | refine Below.drew ?_ | refine Below.drewN ?_ _ | refine below_alloc ?_ _ | refine below_blk' ?_ (by omega) _)) hb23
            clear hb23
            try clear gA lA nA mA
            obtain ⟨gA, lA, nA, mA⟩ := kA
            try clear gC lC nC mC
            obtain ⟨gC, lC, nC, mC⟩ := kC
            clear b22
            clear gB gD lB lD nB nD mB mD
            by_cases h7 : k % 7 = 6
            · have hm : (((k : Int) % 7) == 6) = true := by rw [beq_iff_eq]; omega
              go_wp2_with fail
              obtain ⟨w24, hw24⟩ : ∃ w24, blk w23 C (.cells (nine (p1 % pP)) 30 (0, 0)) = w24 := ⟨_, rfl⟩
              have kA := kept (show hget w24 (A) = some (.cells (quad p1) 24 (0, 0)) by rw [← hw24]; clear hw24; go_simp)
              have kC := kept (show hget w24 (C) = some (.cells (nine (p1 % pP)) 30 (0, 0)) by rw [← hw24]; clear hw24; go_simp)
              have b24 : Hid (Below W.heap.size W w24) := by rw [← hw24]; repeat (first | exact Below.refl _ _ | exact below_new _ | exact b23.out | assumption | refine Below.drew ?_ | refine Below.drewN ?_ _ | refine below_alloc ?_ _ | refine below_blk' ?_ (by omega) _)
              rw [hw24]
              clear hw24
              try clear gA lA nA mA
              try clear jA
              have jA := kA.later
              obtain ⟨gA, lA, nA, mA⟩ := kA
              try clear gC lC nC mC
              try clear jC
              have jC := kC.later
              obtain ⟨gC, lC, nC, mC⟩ := kC
              clear b23
              clear jA jC
              refine (his.out _).mono ?_
              rintro e w25 ⟨rfl, hb25⟩
              have kA := Kept.on (kept (b := A) (o := .cells (quad p1) 24 (0, 0)) (by go_simp)) hb25
              have kC := Kept.on (kept (b := C) (o := .cells (nine (p1 % pP)) 30 (0, 0)) (by go_simp)) hb25
              have b25 : Hid (Below W.heap.size W w25) := below_to (by repeat (first | exact Below.refl _ _ | exact below_new _ | exact b24.out | assumption | refine Below.drew ?_ | refine Below.drewN ?_ _ | refine below_alloc ?_ _ | refine below_blk' ?_ (by omega) _)) hb25
              clear hb25
              try clear gA lA nA mA
              obtain ⟨gA, lA, nA, mA⟩ := kA
              try clear gC lC nC mC
              obtain ⟨gC, lC, nC, mC⟩ := kC
              clear b24
              go_wp2_with fail
              exact ⟨⟨k + 1, p1, by omega, by go_num, l1, gA, gC, b25⟩, by simp [intOf]; omega⟩
            · have hm : (((k : Int) % 7) == 6) = false := by rw [beq_eq_false_iff_ne]; omega
              go_wp2_with fail
              exact ⟨⟨k + 1, p1, by omega, by go_num, l1, by go_simp, by go_simp, hid (below_blk' b23.out wC _)⟩, by simp [intOf]; omega⟩
          · have t2 : (d == 2) = false := by rw [beq_eq_false_iff_ne]; exact d2
            by_cases d3 : d = 3
            · have t3 : (d == 3) = true := by rw [d3]; rfl
              obtain ⟨p1, hp1⟩ : ∃ p1, mulN p p = p1 := ⟨_, rfl⟩
              have e1 := fun w => mul_any p p w lp lp
              have e2 := fun w => ref_Mul (p % pP) (p % pP) w hcp hcp
              have l1 := mul_lt lp lp
              have r1 := mm p p
              rw [hp1] at e1 l1 r1
              rw [← r1] at e2
              have E1 := hid e1
              have E2 := hid e2
              have his := hid (fun w => is_any p1 (p1 % pP) w l1 rfl)
              clear e1 e2 r1 hp1
              go_wp2_with fail
              refine (E1.out _).mono ?_
              rintro e w21 ⟨rfl, hb21⟩
              have kC := Kept.on (kept (b := C) (o := .cells (nine (p % pP)) 30 (0, 0)) (by go_simp)) hb21
              have kB := Kept.on (kept (b := B) (o := .cells (quad v) 24 (0, 0)) (by go_simp)) hb21
              have kD := Kept.on (kept (b := D) (o := .cells (nine (v % pP)) 30 (0, 0)) (by go_simp)) hb21
              have kA := Kept.on (kept (b := A) (o := .cells (quad p) 24 (0, 0)) (by go_simp)) hb21
              have b21 : Hid (Below W.heap.size W w21) := below_to (by repeat (first | exact Below.refl _ _ | exact below_new _ | exact b18.out | assumption | refine Below.drew ?_ | refine Below.drewN ?_ _ | refine below_alloc ?_ _ | refine below_blk' ?_ (by omega) _)) hb21
              clear hb21
              try clear gC lC nC mC
              obtain ⟨gC, lC, nC, mC⟩ := kC
              try clear gB lB nB mB
              obtain ⟨gB, lB, nB, mB⟩ := kB
              try clear gD lD nD mD
              obtain ⟨gD, lD, nD, mD⟩ := kD
              try clear gA lA nA mA
              obtain ⟨gA, lA, nA, mA⟩ := kA
              clear b18
              go_wp2_with fail
              obtain ⟨w22, hw22⟩ : ∃ w22, blk w21 A (.cells (quad p1) 24 (0, 0)) = w22 := ⟨_, rfl⟩
              have kA := kept (show hget w22 (A) = some (.cells (quad p1) 24 (0, 0)) by rw [← hw22]; clear hw22; go_simp)
              have kC := kept (show hget w22 (C) = some (.cells (nine (p % pP)) 30 (0, 0)) by rw [← hw22]; clear hw22; go_simp)
              have kB := kept (show hget w22 (B) = some (.cells (quad v) 24 (0, 0)) by rw [← hw22]; clear hw22; go_simp)
              have kD := kept (show hget w22 (D) = some (.cells (nine (v % pP)) 30 (0, 0)) by rw [← hw22]; clear hw22; go_simp)
              have b22 : Hid (Below W.heap.size W w22) := by rw [← hw22]; repeat (first | exact Below.refl _ _ | exact below_new _ | exact b21.out | assumption | refine Below.drew ?_ | refine Below.drewN ?_ _ | refine below_alloc ?_ _ | refine below_blk' ?_ (by omega) _)
              rw [hw22]
              clear hw22
              try clear gA lA nA mA
              try clear jA
              have jA := kA.later
              obtain ⟨gA, lA, nA, mA⟩ := kA
              try clear gC lC nC mC
              try clear jC
              have jC := kC.later
              obtain ⟨gC, lC, nC, mC⟩ := kC
              try clear gB lB nB mB
              try clear jB
              have jB := kB.later
              obtain ⟨gB, lB, nB, mB⟩ := kB
              try clear gD lD nD mD
              try clear jD
              have jD := kD.later
              obtain ⟨gD, lD, nD, mD⟩ := kD
              clear b21
              clear jA jB jC jD
              refine (E2.out _).mono ?_
              rintro e w23 ⟨rfl, hb23⟩
              have kA := Kept.on (kept (b := A) (o := .cells (quad p1) 24 (0, 0)) (by go_simp)) hb23
              have kC := Kept.on (kept (b := C) (o := .cells (nine (p % pP)) 30 (0, 0)) (by go_simp)) hb23
              have b23 : Hid (Below W.heap.size W w23) := below_to (by repeat (first | exact Below.refl _ _ | exact below_new _ | exact b22.out | assumption | refine Below.drew ?_ | refine Below.drewN ?_ _ | refine below_alloc ?_ _ | refine below_blk' ?_ (by omega) _)) hb23
              clear hb23
              try clear gA lA nA mA
              obtain ⟨gA, lA, nA, mA⟩ := kA
              try clear gC lC nC mC
              obtain ⟨gC, lC, nC, mC⟩ := kC
              clear b22
              clear gB gD lB lD nB nD mB mD
              by_cases h7 : k % 7 = 6
              · have hm : (((k : Int) % 7) == 6) = true := by rw [beq_iff_eq]; omega
                go_wp2_with fail
                obtain ⟨w24, hw24⟩ : ∃ w24, blk w23 C (.cells (nine (p1 % pP)) 30 (0, 0)) = w24 := ⟨_, rfl⟩
                have kA := kept (show hget w24 (A) = some (.cells (quad p1) 24 (0, 0)) by rw [← hw24]; clear hw24; go_simp)
                have kC := kept (show hget w24 (C) = some (.cells (nine (p1 % pP)) 30 (0, 0)) by rw [← hw24]; clear hw24; go_simp)
                have b24 : Hid (Below W.heap.size W w24) := by rw [← hw24]; repeat (first | exact Below.refl _ _ | exact below_new _ | exact b23.out | assumption | refine Below.drew ?_ | refine Below.drewN ?_ _ | refine below_alloc ?_ _ | refine below_blk' ?_ (by omega) _)
                rw [hw24]
                clear hw24
                try clear gA lA nA mA
                try clear jA
                have jA := kA.later
                obtain ⟨gA, lA, nA, mA⟩ := kA
                try clear gC lC nC mC
                try clear jC
                have jC := kC.later
                obtain ⟨gC, lC, nC, mC⟩ := kC
                clear b23
                clear jA jC
                refine (his.out _).mono ?_
                rintro e w25 ⟨rfl, hb25⟩
                have kA := Kept.on (kept (b := A) (o := .cells (quad p1) 24 (0, 0)) (by go_simp)) hb25
                have kC := Kept.on (kept (b := C) (o := .cells (nine (p1 % pP)) 30 (0, 0)) (by go_simp)) hb25
                have b25 : Hid (Below W.heap.size W w25) := below_to (by repeat (first | exact Below.refl _ _ | exact below_new _ | exact b24.out | assumption | refine Below.drew ?_ | refine Below.drewN ?_ _ | refine below_alloc ?_ _ | refine below_blk' ?_ (by omega) _)) hb25
                clear hb25
                try clear gA lA nA mA
                obtain ⟨gA, lA, nA, mA⟩ := kA
                try clear gC lC nC mC
                obtain ⟨gC, lC, nC, mC⟩ := kC
                clear b24
                go_wp2_with fail
                exact ⟨⟨k + 1, p1, by omega, by go_num, l1, gA, gC, b25⟩, by simp [intOf]; omega⟩
              · have hm : (((k : Int) % 7) == 6) = false := by rw [beq_eq_false_iff_ne]; omega
                go_wp2_with fail
                exact ⟨⟨k + 1, p1, by omega, by go_num, l1, by go_simp, by go_simp, hid (below_blk' b23.out wC _)⟩, by simp [intOf]; omega⟩
            · have t3 : (d == 3) = false := by rw [beq_eq_false_iff_ne]; exact d3
              by_cases d4 : d = 4
              · have t4 : (d == 4) = true := by rw [d4]; rfl
                obtain ⟨p1, hp1⟩ : ∃ p1, addN p p = p1 := ⟨_, rfl⟩
                have e1 := fun w => add_any p p w lp lp
                have e2 := fun w => ref_Add (p % pP) (p % pP) w hcp (Nat.le_of_lt hcp)
                have l1 := add_lt lp lp
                have r1 := add_mod2 p p
                rw [hp1] at e1 l1 r1
                rw [← r1] at e2
                have E1 := hid e1
                have E2 := hid e2
                have his := hid (fun w => is_any p1 (p1 % pP) w l1 rfl)
                clear e1 e2 r1 hp1
                go_wp2_with fail
                refine (E1.out _).mono ?_
                rintro e w21 ⟨rfl, hb21⟩
                have kC := Kept.on (kept (b := C) (o := .cells (nine (p % pP)) 30 (0, 0)) (by go_simp)) hb21
                have kB := Kept.on (kept (b := B) (o := .cells (quad v) 24 (0, 0)) (by go_simp)) hb21
                have kD := Kept.on (kept (b := D) (o := .cells (nine (v % pP)) 30 (0, 0)) (by go_simp)) hb21
                have kA := Kept.on (kept (b := A) (o := .cells (quad p) 24 (0, 0)) (by go_simp)) hb21
                have b21 : Hid (Below W.heap.size W w21) := below_to (by repeat (first | exact Below.refl _ _ | exact below_new _ | exact b18.out | assumption | refine Below.drew ?_ | refine Below.drewN ?_ _ | refine below_alloc ?_ _ | refine below_blk' ?_ (by omega) _)) hb21
                clear hb21
                try clear gC lC nC mC
                obtain ⟨gC, lC, nC, mC⟩ := kC
                try clear gB lB nB mB
                obtain ⟨gB, lB, nB, mB⟩ := kB
                try clear gD lD nD mD
                obtain ⟨gD, lD, nD, mD⟩ := kD
                try clear gA lA nA mA
                obtain ⟨gA, lA, nA, mA⟩ := kA
                clear b18
                go_wp2_with fail
                obtain ⟨w22, hw22⟩ : ∃ w22, blk w21 A (.cells (quad p1) 24 (0, 0)) = w22 := ⟨_, rfl⟩
                have kA := kept (show hget w22 (A) = some (.cells (quad p1) 24 (0, 0)) by rw [← hw22]; clear hw22; go_simp)
                have kC := kept (show hget w22 (C) = some (.cells (nine (p % pP)) 30 (0, 0)) by rw [← hw22]; clear hw22; go_simp)
                have kB := kept (show hget w22 (B) = some (.cells (quad v) 24 (0, 0)) by rw [← hw22]; clear hw22; go_simp)
                have kD := kept (show hget w22 (D) = some (.cells (nine (v % pP)) 30 (0, 0)) by rw [← hw22]; clear hw22; go_simp)
                have b22 : Hid (Below W.heap.size W w22) := by rw [← hw22]; repeat (first | exact Below.refl _ _ | exact below_new _ | exact b21.out | assumption | refine Below.drew ?_ | refine Below.drewN ?_ _ | refine below_alloc ?_ _ | refine below_blk' ?_ (by omega) _)
                rw [hw22]
                clear hw22
                try clear gA lA nA mA
                try clear jA
                have jA := kA.later
                obtain ⟨gA, lA, nA, mA⟩ := kA
                try clear gC lC nC mC
                try clear jC
                have jC := kC.later
                obtain ⟨gC, lC, nC, mC⟩ := kC
                try clear gB lB nB mB
                try clear jB
                have jB := kB.later
                obtain ⟨gB, lB, nB, mB⟩ := kB
                try clear gD lD nD mD
                try clear jD
                have jD := kD.later
                obtain ⟨gD, lD, nD, mD⟩ := kD
                clear b21
                clear jA jB jC jD
                refine (E2.out _).mono ?_
                rintro e w23 ⟨rfl, hb23⟩
                have kA := Kept.on (kept (b := A) (o := .cells (quad p1) 24 (0, 0)) (by go_simp)) hb23
                have kC := Kept.on (kept (b := C) (o := .cells (nine (p % pP)) 30 (0, 0)) (by go_simp)) hb23
                have b23 : Hid (Below W.heap.size W w23) := below_to (by repeat (first | exact Below.refl _ _ | exact below_new _ | exact b22.out | assumption | refine Below.drew ?_ | refine Below.drewN ?_ _ | refine below_alloc ?_ _ | refine below_blk' ?_ (by omega) _)) hb23
                clear hb23
                try clear gA lA nA mA
                obtain ⟨gA, lA, nA, mA⟩ := kA
                try clear gC lC nC mC
                obtain ⟨gC, lC, nC, mC⟩ := kC
                clear b22
                clear gB gD lB lD nB nD mB mD
                by_cases h7 : k % 7 = 6
                · have hm : (((k : Int) % 7) == 6) = true := by rw [beq_iff_eq]; omega
                  go_wp2_with fail
                  obtain ⟨w24, hw24⟩ : ∃ w24, blk w23 C (.cells (nine (p1 % pP)) 30 (0, 0)) = w24 := ⟨_, rfl⟩
                  have kA := kept (show hget w24 (A) = some (.cells (quad p1) 24 (0, 0)) by rw [← hw24]; clear hw24; go_simp)
                  have kC := kept (show hget w24 (C) = some (.cells (nine (p1 % pP)) 30 (0, 0)) by rw [← hw24]; clear hw24; go_simp)
                  have b24 : Hid (Below W.heap.size W w24) := by rw [← hw24]; repeat (first | exact Below.refl _ _ | exact below_new _ | exact b23.out | assumption | refine Below.drew ?_ | refine Below.drewN ?_ _ | refine below_alloc ?_ _ | refine below_blk' ?_ (by omega) _)
                  rw [hw24]
                  clear hw24
                  try clear gA lA nA mA
                  try clear jA
                  have jA := kA.later
                  obtain ⟨gA, lA, nA, mA⟩ := kA
                  try clear gC lC nC mC
                  try clear jC
                  have jC := kC.later
                  obtain ⟨gC, lC, nC, mC⟩ := kC
                  clear b23
                  clear jA jC
                  refine (his.out _).mono ?_
                  rintro e w25 ⟨rfl, hb25⟩
                  have kA := Kept.on (kept (b := A) (o := .cells (quad p1) 24 (0, 0)) (by go_simp)) hb25
                  have kC := Kept.on (kept (b := C) (o := .cells (nine (p1 % pP)) 30 (0, 0)) (by go_simp)) hb25
                  have b25 : Hid (Below W.heap.size W w25) := below_to (by repeat (first | exact Below.refl _ _ | exact below_new _ | exact b24.out | assumption | refine Below.drew ?_ | refine Below.drewN ?_ _ | refine below_alloc ?_ _ | refine below_blk' ?_ (by omega) _)) hb25
                  clear hb25
                  try clear gA lA nA mA
                  obtain ⟨gA, lA, nA, mA⟩ := kA
                  try clear gC lC nC mC
                  obtain ⟨gC, lC, nC, mC⟩ := kC
                  clear b24
                  go_wp2_with fail
                  exact ⟨⟨k + 1, p1, by omega, by go_num, l1, gA, gC, b25⟩, by simp [intOf]; omega⟩
                · have hm : (((k : Int) % 7) == 6) = false := by rw [beq_eq_false_iff_ne]; omega
                  go_wp2_with fail
                  exact ⟨⟨k + 1, p1, by omega, by go_num, l1, by go_simp, by go_simp, hid (below_blk' b23.out wC _)⟩, by simp [intOf]; omega⟩
              · have t4 : (d == 4) = false := by rw [beq_eq_false_iff_ne]; exact d4
                obtain ⟨p1, hp1⟩ : ∃ p1, addN p v = p1 := ⟨_, rfl⟩
                have e1 := fun w => add_any p v w lp lv
                have e2 := fun w => ref_Add (p % pP) (v % pP) w hcp (Nat.le_of_lt hcv)
                have l1 := add_lt lp lv
                have r1 := add_mod2 p v
                rw [hp1] at e1 l1 r1
                rw [← r1] at e2
                have E1 := hid e1
                have E2 := hid e2
                have his := hid (fun w => is_any p1 (p1 % pP) w l1 rfl)
                clear e1 e2 r1 hp1
                go_wp2_with fail
                refine (E1.out _).mono ?_
                rintro e w21 ⟨rfl, hb21⟩
                have kC := Kept.on (kept (b := C) (o := .cells (nine (p % pP)) 30 (0, 0)) (by go_simp)) hb21
                have kB := Kept.on (kept (b := B) (o := .cells (quad v) 24 (0, 0)) (by go_simp)) hb21
                have kD := Kept.on (kept (b := D) (o := .cells (nine (v % pP)) 30 (0, 0)) (by go_simp)) hb21
                have kA := Kept.on (kept (b := A) (o := .cells (quad p) 24 (0, 0)) (by go_simp)) hb21
                have b21 : Hid (Below W.heap.size W w21) := below_to (by repeat (first | exact Below.refl _ _ | exact below_new _ | exact b18.out | assumption | refine Below.drew ?_ | refine Below.drewN ?_ _ | refine below_alloc ?_ _ | refine below_blk' ?_ (by omega) _)) hb21
                clear hb21
                try clear gC lC nC mC
                obtain ⟨gC, lC, nC, mC⟩ := kC
                try clear gB lB nB mB
                obtain ⟨gB, lB, nB, mB⟩ := kB
                try clear gD lD nD mD
                obtain ⟨gD, lD, nD, mD⟩ := kD
                try clear gA lA nA mA
                obtain ⟨gA, lA, nA, mA⟩ := kA
                clear b18
                go_wp2_with fail
                obtain ⟨w22, hw22⟩ : ∃ w22, blk w21 A (.cells (quad p1) 24 (0, 0)) = w22 := ⟨_, rfl⟩
                have kA := kept (show hget w22 (A) = some (.cells (quad p1) 24 (0, 0)) by rw [← hw22]; clear hw22; go_simp)
                have kC := kept (show hget w22 (C) = some (.cells (nine (p % pP)) 30 (0, 0)) by rw [← hw22]; clear hw22; go_simp)
                have kB := kept (show hget w22 (B) = some (.cells (quad v) 24 (0, 0)) by rw [← hw22]; clear hw22; go_simp)
                have kD := kept (show hget w22 (D) = some (.cells (nine (v % pP)) 30 (0, 0)) by rw [← hw22]; clear hw22; go_simp)
                have b22 : Hid (Below W.heap.size W w22) := by rw [← hw22]; repeat (first | exact Below.refl _ _ | exact below_new _ | exact b21.out | assumption | refine Below.drew ?_ | refine Below.drewN ?_ _ | refine below_alloc ?_ _ | refine below_blk' ?_ (by omega) _)
                rw [hw22]
                clear hw22
                try clear gA lA nA mA
                try clear jA
                have jA := kA.later
                obtain ⟨gA, lA, nA, mA⟩ := kA
                try clear gC lC nC mC
                try clear jC
                have jC := kC.later
                obtain ⟨gC, lC, nC, mC⟩ := kC
                try clear gB lB nB mB
                try clear jB
                have jB := kB.later
                obtain ⟨gB, lB, nB, mB⟩ := kB
                try clear gD lD nD mD
                try clear jD
                have jD := kD.later
                obtain ⟨gD, lD, nD, mD⟩ := kD
                clear b21
                clear jA jB jC jD
                refine (E2.out _).mono ?_
                rintro e w23 ⟨rfl, hb23⟩
                have kA := Kept.on (kept (b := A) (o := .cells (quad p1) 24 (0, 0)) (by go_simp)) hb23
                have kC := Kept.on (kept (b := C) (o := .cells (nine (p % pP)) 30 (0, 0)) (by go_simp)) hb23
                have b23 : Hid (Below W.heap.size W w23) := below_to (by repeat (first | exact Below.refl _ _ | exact below_new _ | exact b22.out | assumption | refine Below.drew ?_ | refine Below.drewN ?_ _ | refine below_alloc ?_ _ | refine below_blk' ?_ (by omega) _)) hb23
                clear hb23
                try clear gA lA nA mA
                obtain ⟨gA, lA, nA, mA⟩ := kA
                try clear gC lC nC mC
                obtain ⟨gC, lC, nC, mC⟩ := kC
                clear b22
                clear gB gD lB lD nB nD mB mD
                by_cases h7 : k % 7 = 6
                · have hm : (((k : Int) % 7) == 6) = true := by rw [beq_iff_eq]; omega
                  go_wp2_with fail
                  obtain ⟨w24, hw24⟩ : ∃ w24, blk w23 C (.cells (nine (p1 % pP)) 30 (0, 0)) = w24 := ⟨_, rfl⟩
                  have kA := kept (show hget w24 (A) = some (.cells (quad p1) 24 (0, 0)) by rw [← hw24]; clear hw24; go_simp)
                  have kC := kept (show hget w24 (C) = some (.cells (nine (p1 % pP)) 30 (0, 0)) by rw [← hw24]; clear hw24; go_simp)
                  have b24 : Hid (Below W.heap.size W w24) := by rw [← hw24]; repeat (first | exact Below.refl _ _ | exact below_new _ | exact b23.out | assumption | refine Below.drew ?_ | refine Below.drewN ?_ _ | refine below_alloc ?_ _ | refine below_blk' ?_ (by omega) _)
                  rw [hw24]
                  clear hw24
                  try clear gA lA nA mA
                  try clear jA
                  have jA := kA.later
                  obtain ⟨gA, lA, nA, mA⟩ := kA
                  try clear gC lC nC mC
                  try clear jC
                  have jC := kC.later
                  obtain ⟨gC, lC, nC, mC⟩ := kC
                  clear b23
                  clear jA jC
                  refine (his.out _).mono ?_
                  rintro e w25 ⟨rfl, hb25⟩
                  have kA := Kept.on (kept (b := A) (o := .cells (quad p1) 24 (0, 0)) (by go_simp)) hb25
                  have kC := Kept.on (kept (b := C) (o := .cells (nine (p1 % pP)) 30 (0, 0)) (by go_simp)) hb25
                  have b25 : Hid (Below W.heap.size W w25) := below_to (by repeat (first | exact Below.refl _ _ | exact below_new _ | exact b24.out | assumption | refine Below.drew ?_ | refine Below.drewN ?_ _ | refine below_alloc ?_ _ | refine below_blk' ?_ (by omega) _)) hb25
                  clear hb25
                  try clear gA lA nA mA
                  obtain ⟨gA, lA, nA, mA⟩ := kA
                  try clear gC lC nC mC
                  obtain ⟨gC, lC, nC, mC⟩ := kC
                  clear b24
                  go_wp2_with fail
                  exact ⟨⟨k + 1, p1, by omega, by go_num, l1, gA, gC, b25⟩, by simp [intOf]; omega⟩
                · have hm : (((k : Int) % 7) == 6) = false := by rw [beq_eq_false_iff_ne]; omega
                  go_wp2_with fail
                  exact ⟨⟨k + 1, p1, by omega, by go_num, l1, by go_simp, by go_simp, hid (below_blk' b23.out wC _)⟩, by simp [intOf]; omega⟩
      · have hoft := hid (fun w => Of_no t w h32 hsz)
        obtain ⟨v, hv⟩ : ∃ v, v = 0 := ⟨_, rfl⟩
        have hlv : v < p2 := by rw [hv]; decide
        have hcv : v % pP < pP := Nat.mod_lt _ (by decide)
        rw [← hv] at hoft
        have hz : nine 0 = nine (v % pP) := by rw [hv]; rfl
        have HZ := hid hz
        clear h32 hv hz
        go_wp2_with fail
        refine (hoft.out _).mono ?_
        rintro e w11 ⟨rfl, hb11⟩
        have kA := Kept.on (kept (b := A) (o := .cells (quad p) 24 (0, 0)) (by go_simp)) hb11
        have kC := Kept.on (kept (b := C) (o := .cells (nine (p % pP)) 30 (0, 0)) (by go_simp)) hb11
        have b11 : Hid (Below W.heap.size W w11) := below_to (by repeat (first | exact Below.refl _ _ | exact below_new _ | exact qb.out | assumption | refine Below.drew ?_ | refine Below.drewN ?_ _ | refine below_alloc ?_ _ | refine below_blk' ?_ (by omega) _)) hb11
        clear hb11
        try clear gA lA nA mA
        obtain ⟨gA, lA, nA, mA⟩ := kA
        try clear gC lC nC mC
        obtain ⟨gC, lC, nC, mC⟩ := kC
        clear qb
        clear cS
        go_upto_region 9 with (fail)
        obtain ⟨B, hB⟩ : ∃ b, w11.heap.size = b := ⟨_, rfl⟩
        have wB : W.heap.size ≤ B := by rw [← hB]; exact b11.out.size
        have eAB : (A = B) = False := by rw [← hB]; exact nA
        have eBA : (B = A) = False := by rw [← hB]; exact mA
        have eCB : (C = B) = False := by rw [← hB]; exact nC
        have eBC : (B = C) = False := by rw [← hB]; exact mC
        obtain ⟨w12, hw12⟩ : ∃ w12, w11.alloc (.cells (quad v) 24) = w12 := ⟨_, rfl⟩
        have kA := kept (show hget w12 (A) = some (.cells (quad p) 24 (0, 0)) by rw [← hw12]; clear hw12; go_simp)
        have kC := kept (show hget w12 (C) = some (.cells (nine (p % pP)) 30 (0, 0)) by rw [← hw12]; clear hw12; go_simp)
        have kB := kept (show hget w12 (w11.heap.size) = some (.cells (quad v) 24) by rw [← hw12]; clear hw12; go_simp)
        have b12 : Hid (Below W.heap.size W w12) := by rw [← hw12]; repeat (first | exact Below.refl _ _ | exact below_new _ | exact b11.out | assumption | refine Below.drew ?_ | refine Below.drewN ?_ _ | refine below_alloc ?_ _ | refine below_blk' ?_ (by omega) _)
        rw [hw12]
        clear hw12
        try clear gA lA nA mA
        try clear jA
        have jA := kA.later
        obtain ⟨gA, lA, nA, mA⟩ := kA
        try clear gC lC nC mC
        try clear jC
        have jC := kC.later
        obtain ⟨gC, lC, nC, mC⟩ := kC
        try clear gB lB nB mB
        try clear jB
        have jB := kB.later
        obtain ⟨gB, lB, nB, mB⟩ := kB
        clear b11
        rw [hB] at *
        clear hB
        clear jA jB jC
        go_upto_region 12 with (fail)
        rw [HZ.out]
        obtain ⟨D, hD⟩ : ∃ b, w12.heap.size = b := ⟨_, rfl⟩
        have wD : W.heap.size ≤ D := by rw [← hD]; exact b12.out.size
        have eAD : (A = D) = False := by rw [← hD]; exact nA
        have eDA : (D = A) = False := by rw [← hD]; exact mA
        have eCD : (C = D) = False := by rw [← hD]; exact nC
        have eDC : (D = C) = False := by rw [← hD]; exact mC
        have eBD : (B = D) = False := by rw [← hD]; exact nB
        have eDB : (D = B) = False := by rw [← hD]; exact mB
        obtain ⟨w18, hw18⟩ : ∃ w18, w12.alloc (.cells (nine (v % pP)) 30) = w18 := ⟨_, rfl⟩
        have kA := kept (show hget w18 (A) = some (.cells (quad p) 24 (0, 0)) by rw [← hw18]; clear hw18; go_simp)
        have kC := kept (show hget w18 (C) = some (.cells (nine (p % pP)) 30 (0, 0)) by rw [← hw18]; clear hw18; go_simp)
        have kB := kept (show hget w18 (B) = some (.cells (quad v) 24 (0, 0)) by rw [← hw18]; clear hw18; go_simp)
        have kD := kept (show hget w18 (w12.heap.size) = some (.cells (nine (v % pP)) 30) by rw [← hw18]; clear hw18; go_simp)
        have b18 : Hid (Below W.heap.size W w18) := by rw [← hw18]; repeat (first | exact Below.refl _ _ | exact below_new _ | exact b12.out | assumption | refine Below.drew ?_ | refine Below.drewN ?_ _ | refine below_alloc ?_ _ | refine below_blk' ?_ (by omega) _)
        rw [hw18]
        clear hw18
        try clear gA lA nA mA
        try clear jA
        have jA := kA.later
        obtain ⟨gA, lA, nA, mA⟩ := kA
        try clear gC lC nC mC
        try clear jC
        have jC := kC.later
        obtain ⟨gC, lC, nC, mC⟩ := kC
        try clear gB lB nB mB
        try clear jB
        have jB := kB.later
        obtain ⟨gB, lB, nB, mB⟩ := kB
        try clear gD lD nD mD
        try clear jD
        have jD := kD.later
        obtain ⟨gD, lD, nD, mD⟩ := kD
        clear b12
        rw [hD] at *
        clear hD
        clear jA jB jC jD
        have lv := hlv
        have cD := (b18.out.cell (p := ⟨bk, off + k * 2, none⟩) hbW).trans C0.out
        by_cases d1 : d = 1
        · have t1 : (d == 1) = true := by rw [d1]; rfl
          obtain ⟨p1, hp1⟩ : ∃ p1, subN p v = p1 := ⟨_, rfl⟩
          have e1 := fun w => sub_any p v w lp lv
          have e2 := fun w => ref_Sub (p % pP) (v % pP) w hcp (Nat.le_of_lt hcv)
          have l1 := sub_lt lp lv
          have r1 := sub_mod2 lp lv
          rw [hp1] at e1 l1 r1
          rw [← r1] at e2
          have E1 := hid e1
          have E2 := hid e2
          have his := hid (fun w => is_any p1 (p1 % pP) w l1 rfl)
          clear e1 e2 r1 hp1
          go_wp2_with fail
          refine (E1.out _).mono ?_
          rintro e w21 ⟨rfl, hb21⟩
          have kC := Kept.on (kept (b := C) (o := .cells (nine (p % pP)) 30 (0, 0)) (by go_simp)) hb21
          have kB := Kept.on (kept (b := B) (o := .cells (quad v) 24 (0, 0)) (by go_simp)) hb21
          have kD := Kept.on (kept (b := D) (o := .cells (nine (v % pP)) 30 (0, 0)) (by go_simp)) hb21
          have kA := Kept.on (kept (b := A) (o := .cells (quad p) 24 (0, 0)) (by go_simp)) hb21
          have b21 : Hid (Below W.heap.size W w21) := below_to (by repeat (first | exact Below.refl _ _ | exact below_new _ | exact b18.out | assumption | refine Below.drew ?_ | refine Below.drewN ?_ _ | refine below_alloc ?_ _ | refine below_blk' ?_ (by omega) _)) hb21
          clear hb21
          try clear gC lC nC mC
          obtain ⟨gC, lC, nC, mC⟩ := kC
          try clear gB lB nB mB
          obtain ⟨gB, lB, nB, mB⟩ := kB
          try clear gD lD nD mD
          obtain ⟨gD, lD, nD, mD⟩ := kD
          try clear gA lA nA mA
          obtain ⟨gA, lA, nA, mA⟩ := kA
          clear b18
          go_wp2_with fail
          obtain ⟨w22, hw22⟩ : ∃ w22, blk w21 A (.cells (quad p1) 24 (0, 0)) = w22 := ⟨_, rfl⟩
          have kA := kept (show hget w22 (A) = some (.cells (quad p1) 24 (0, 0)) by rw [← hw22]; clear hw22; go_simp)
          have kC := kept (show hget w22 (C) = some (.cells (nine (p % pP)) 30 (0, 0)) by rw [← hw22]; clear hw22; go_simp)
          have kB := kept (show hget w22 (B) = some (.cells (quad v) 24 (0, 0)) by rw [← hw22]; clear hw22; go_simp)
          have kD := kept (show hget w22 (D) = some (.cells (nine (v % pP)) 30 (0, 0)) by rw [← hw22]; clear hw22; go_simp)
          have b22 : Hid (Below W.heap.size W w22) := by rw [← hw22]; repeat (first | exact Below.refl _ _ | exact below_new _ | exact b21.out | assumption | refine Below.drew ?_ | refine Below.drewN ?_ _ | refine below_alloc ?_ _ | refine below_blk' ?_ (by omega) _)
          rw [hw22]
          clear hw22
          try clear gA lA nA mA
          try clear jA
          have jA := kA.later
          obtain ⟨gA, lA, nA, mA⟩ := kA
          try clear gC lC nC mC
          try clear jC
          have jC := kC.later
          obtain ⟨gC, lC, nC, mC⟩ := kC
          try clear gB lB nB mB
          try clear jB
          have jB := kB.later
          obtain ⟨gB, lB, nB, mB⟩ := kB
          try clear gD lD nD mD
          try clear jD
          have jD := kD.later
          obtain ⟨gD, lD, nD, mD⟩ := kD
          clear b21
          clear jA jB jC jD
          refine (E2.out _).mono ?_
          rintro e w23 ⟨rfl, hb23⟩
          have kA := Kept.on (kept (b := A) (o := .cells (quad p1) 24 (0, 0)) (by go_simp)) hb23
          have kC := Kept.on (kept (b := C) (o := .cells (nine (p % pP)) 30 (0, 0)) (by go_simp)) hb23
          have b23 : Hid (Below W.heap.size W w23) := below_to (by repeat (first | exact Below.refl _ _ | exact below_new _ | exact b22.out | assumption | refine Below.drew ?_ | refine Below.drewN ?_ _ | refine below_alloc ?_ _ | refine below_blk' ?_ (by omega) _)) hb23
          clear hb23
          try clear gA lA nA mA
          obtain ⟨gA, lA, nA, mA⟩ := kA
          try clear gC lC nC mC
          obtain ⟨gC, lC, nC, mC⟩ := kC
          clear b22
          clear gB gD lB lD nB nD mB mD
          by_cases h7 : k % 7 = 6
          · have hm : (((k : Int) % 7) == 6) = true := by rw [beq_iff_eq]; omega
            go_wp2_with fail
            obtain ⟨w24, hw24⟩ : ∃ w24, blk w23 C (.cells (nine (p1 % pP)) 30 (0, 0)) = w24 := ⟨_, rfl⟩
            have kA := kept (show hget w24 (A) = some (.cells (quad p1) 24 (0, 0)) by rw [← hw24]; clear hw24; go_simp)
            have kC := kept (show hget w24 (C) = some (.cells (nine (p1 % pP)) 30 (0, 0)) by rw [← hw24]; clear hw24; go_simp)
            have b24 : Hid (Below W.heap.size W w24) := by rw [← hw24]; repeat (first | exact Below.refl _ _ | exact below_new _ | exact b23.out | assumption | refine Below.drew ?_ | refine Below.drewN ?_ _ | refine below_alloc ?_ _ | refine below_blk' ?_ (by omega) _)
            rw [hw24]
            clear hw24
            try clear gA lA nA mA
            try clear jA
            have jA := kA.later
            obtain ⟨gA, lA, nA, mA⟩ := kA
            try clear gC lC nC mC
            try clear jC
            have jC := kC.later
            obtain ⟨gC, lC, nC, mC⟩ := kC
            clear b23
            clear jA jC
            refine (his.out _).mono ?_
            rintro e w25 ⟨rfl, hb25⟩
            have kA := Kept.on (kept (b := A) (o := .cells (quad p1) 24 (0, 0)) (by go_simp)) hb25
            have kC := Kept.on (kept (b := C) (o := .cells (nine (p1 % pP)) 30 (0, 0)) (by go_simp)) hb25
            have b25 : Hid (Below W.heap.size W w25) := below_to (by repeat (first | exact Below.refl _ _ | exact below_new _ | exact b24.out | assumption | refine Below.drew ?_ | refine Below.drewN ?_ _ | refine below_alloc ?_ _ | refine below_blk' ?_ (by omega) _)) hb25
            clear hb25
            try clear gA lA nA mA
            obtain ⟨gA, lA, nA, mA⟩ := kA
            try clear gC lC nC mC
            obtain ⟨gC, lC, nC, mC⟩ := kC
            clear b24
            go_wp2_with fail
            exact ⟨⟨k + 1, p1, by omega, by go_num, l1, gA, gC, b25⟩, by simp [intOf]; omega⟩
          · have hm : (((k : Int) % 7) == 6) = false := by rw [beq_eq_false_iff_ne]; omega
            go_wp2_with fail
            exact ⟨⟨k + 1, p1, by omega, by go_num, l1, by go_simp, by go_simp, hid (below_blk' b23.out wC _)⟩, by simp [intOf]; omega⟩
        · have t1 : (d == 1) = false := by rw [beq_eq_false_iff_ne]; exact d1
          by_cases d2 : d = 2
          · have t2 : (d == 2) = true := by rw [d2]; rfl
            obtain ⟨p1, hp1⟩ : ∃ p1, mulN p v = p1 := ⟨_, rfl⟩
            have e1 := fun w => mul_any p v w lp lv
            have e2 := fun w => ref_Mul (p % pP) (v % pP) w hcp hcv
            have l1 := mul_lt lp lv
            have r1 := mm p v
            rw [hp1] at e1 l1 r1
            rw [← r1] at e2
            have E1 := hid e1
            have E2 := hid e2
            have his := hid (fun w => is_any p1 (p1 % pP) w l1 rfl)
            clear e1 e2 r1 hp1
            go_wp2_with fail
            refine (E1.out _).mono ?_
            rintro e w21 ⟨rfl, hb21⟩
            have kC := Kept.on (kept (b := C) (o := .cells (nine (p % pP)) 30 (0, 0)) (by go_simp)) hb21
            have kB := Kept.on (kept (b := B) (o := .cells (quad v) 24 (0, 0)) (by go_simp)) hb21
            have kD := Kept.on (kept (b := D) (o := .cells (nine (v % pP)) 30 (0, 0)) (by go_simp)) hb21
            have kA := Kept.on (kept (b := A) (o := .cells (quad p) 24 (0, 0)) (by go_simp)) hb21
            have b21 : Hid (Below W.heap.size W w21) := below_to (by repeat (first | exact Below.refl _ _ | exact below_new _ | exact b18.out | assumption | refine Below.drew ?_ | refine Below.drewN ?_ _ | refine below_alloc ?_ _ | refine below_blk' ?_ (by omega) _)) hb21
            clear hb21
            try clear gC lC nC mC
            obtain ⟨gC, lC, nC, mC⟩ := kC
            try clear gB lB nB mB
            obtain ⟨gB, lB, nB, mB⟩ := kB
            try clear gD lD nD mD
            obtain ⟨gD, lD, nD, mD⟩ := kD
            try clear gA lA nA mA
            obtain ⟨gA, lA, nA, mA⟩ := kA
            clear b18
            go_wp2_with fail
            obtain ⟨w22, hw22⟩ : ∃ w22, blk w21 A (.cells (quad p1) 24 (0, 0)) = w22 := ⟨_, rfl⟩
            have kA := kept (show hget w22 (A) = some (.cells (quad p1) 24 (0, 0)) by rw [← hw22]; clear hw22; go_simp)
            have kC := kept (show hget w22 (C) = some (.cells (nine (p % pP)) 30 (0, 0)) by rw [← hw22]; clear hw22; go_simp)
            have kB := kept (show hget w22 (B) = some (.cells (quad v) 24 (0, 0)) by rw [← hw22]; clear hw22; go_simp)
            have kD := kept (show hget w22 (D) = some (.cells (nine (v % pP)) 30 (0, 0)) by rw [← hw22]; clear hw22; go_simp)
            have b22 : Hid (Below W.heap.size W w22) := by rw [← hw22]; repeat (first | exact Below.refl _ _ | exact below_new _ | exact b21.out | assumption | refine Below.drew ?_ | refine Below.drewN ?_ _ | refine below_alloc ?_ _ | refine below_blk' ?_ (by omega) _)
            rw [hw22]
            clear hw22
            try clear gA lA nA mA
            try clear jA
            have jA := kA.later
            obtain ⟨gA, lA, nA, mA⟩ := kA
            try clear gC lC nC mC
            try clear jC
            have jC := kC.later
            obtain ⟨gC, lC, nC, mC⟩ := kC
            try clear gB lB nB mB
            try clear jB
            have jB := kB.later
            obtain ⟨gB, lB, nB, mB⟩ := kB
            try clear gD lD nD mD
            try clear jD
            have jD := kD.later
            obtain ⟨gD, lD, nD, mD⟩ := kD
            clear b21
            clear jA jB jC jD
            refine (E2.out _).mono ?_
            rintro e w23 ⟨rfl, hb23⟩
            have kA := Kept.on (kept (b := A) (o := .cells (quad p1) 24 (0, 0)) (by go_simp)) hb23
            have kC := Kept.on (kept (b := C) (o := .cells (nine (p % pP)) 30 (0, 0)) (by go_simp)) hb23
            have b23 : Hid (Below W.heap.size W w23) := below_to (by repeat (first | exact Below.refl _ _ | exact below_new _ | exact b22.out | assumption | refine Below.drew ?_ | refine Below.drewN ?_ _ | refine below_alloc ?_ _ | refine below_blk' ?_ (by omega) _)) hb23
            clear hb23
            try clear gA lA nA mA
            obtain ⟨gA, lA, nA, mA⟩ := kA
            try clear gC lC nC mC
            obtain ⟨gC, lC, nC, mC⟩ := kC
            clear b22
            clear gB gD lB lD nB nD mB mD
            by_cases h7 : k % 7 = 6
            · have hm : (((k : Int) % 7) == 6) = true := by rw [beq_iff_eq]; omega
              go_wp2_with fail
              obtain ⟨w24, hw24⟩ : ∃ w24, blk w23 C (.cells (nine (p1 % pP)) 30 (0, 0)) = w24 := ⟨_, rfl⟩
              have kA := kept (show hget w24 (A) = some (.cells (quad p1) 24 (0, 0)) by rw [← hw24]; clear hw24; go_simp)
              have kC := kept (show hget w24 (C) = some (.cells (nine (p1 % pP)) 30 (0, 0)) by rw [← hw24]; clear hw24; go_simp)
              have b24 : Hid (Below W.heap.size W w24) := by rw [← hw24]; repeat (first | exact Below.refl _ _ | exact below_new _ | exact b23.out | assumption | refine Below.drew ?_ | refine Below.drewN ?_ _ | refine below_alloc ?_ _ | refine below_blk' ?_ (by omega) _)
              rw [hw24]
              clear hw24
              try clear gA lA nA mA
              try clear jA
              have jA := kA.later
              obtain ⟨gA, lA, nA, mA⟩ := kA
              try clear gC lC nC mC
              try clear jC
              have jC := kC.later
              obtain ⟨gC, lC, nC, mC⟩ := kC
              clear b23
              clear jA jC
              refine (his.out _).mono ?_
              rintro e w25 ⟨rfl, hb25⟩
              have kA := Kept.on (kept (b := A) (o := .cells (quad p1) 24 (0, 0)) (by go_simp)) hb25
              have kC := Kept.on (kept (b := C) (o := .cells (nine (p1 % pP)) 30 (0, 0)) (by go_simp)) hb25
              have b25 : Hid (Below W.heap.size W w25) := below_to (by repeat (first | exact Below.refl _ _ | exact below_new _ | exact b24.out | assumption | refine Below.drew ?_ | refine Below.drewN ?_ _ | refine below_alloc ?_ _ | refine below_blk' ?_ (by omega) _)) hb25
              clear hb25
              try clear gA lA nA mA
              obtain ⟨gA, lA, nA, mA⟩ := kA
              try clear gC lC nC mC
              obtain ⟨gC, lC, nC, mC⟩ := kC
              clear b24
              go_wp2_with fail
              exact ⟨⟨k + 1, p1, by omega, by go_num, l1, gA, gC, b25⟩, by simp [intOf]; omega⟩
            · have hm : (((k : Int) % 7) == 6) = false := by rw [beq_eq_false_iff_ne]; omega
              go_wp2_with fail
              exact ⟨⟨k + 1, p1, by omega, by go_num, l1, by go_simp, by go_simp, hid (below_blk' b23.out wC _)⟩, by simp [intOf]; omega⟩
          · have t2 : (d == 2) = false := by rw [beq_eq_false_iff_ne]; exact d2
            by_cases d3 : d = 3
            · have t3 : (d == 3) = true := by rw [d3]; rfl
              obtain ⟨p1, hp1⟩ : ∃ p1, mulN p p = p1 := ⟨_, rfl⟩
              have e1 := fun w => mul_any p p w lp lp
              have e2 := fun w => ref_Mul (p % pP) (p % pP) w hcp hcp
              have l1 := mul_lt lp lp
              have r1 := mm p p
              rw [hp1] at e1 l1 r1
              rw [← r1] at e2
              have E1 := hid e1
              have E2 := hid e2
              have his := hid (fun w => is_any p1 (p1 % pP) w l1 rfl)
              clear e1 e2 r1 hp1
              go_wp2_with fail
              refine (E1.out _).mono ?_
              rintro e w21 ⟨rfl, hb21⟩
              have kC := Kept.on (kept (b := C) (o := .cells (nine (p % pP)) 30 (0, 0)) (by go_simp)) hb21
              have kB := Kept.on (kept (b := B) (o := .cells (quad v) 24 (0, 0)) (by go_simp)) hb21
              have kD := Kept.on (kept (b := D) (o := .cells (nine (v % pP)) 30 (0, 0)) (by go_simp)) hb21
              have kA := Kept.on (kept (b := A) (o := .cells (quad p) 24 (0, 0)) (by go_simp)) hb21
              have b21 : Hid (Below W.heap.size W w21) := below_to (by repeat (first | exact Below.refl _ _ | exact below_new _ | exact b18.out | assumption | refine Below.drew ?_ | refine Below.drewN ?_ _ | refine below_alloc ?_ _ | refine below_blk' ?_ (by omega) _)) hb21
              clear hb21
              try clear gC lC nC mC
              obtain ⟨gC, lC, nC, mC⟩ := kC
              try clear gB lB nB mB
              obtain ⟨gB, lB, nB, mB⟩ := kB
              try clear gD lD nD mD
              obtain ⟨gD, lD, nD, mD⟩ := kD
              try clear gA lA nA mA
              obtain ⟨gA, lA, nA, mA⟩ := kA
              clear b18
              go_wp2_with fail
              obtain ⟨w22, hw22⟩ : ∃ w22, blk w21 A (.cells (quad p1) 24 (0, 0)) = w22 := ⟨_, rfl⟩
              have kA := kept (show hget w22 (A) = some (.cells (quad p1) 24 (0, 0)) by rw [← hw22]; clear hw22; go_simp)
              have kC := kept (show hget w22 (C) = some (.cells (nine (p % pP)) 30 (0, 0)) by rw [← hw22]; clear hw22; go_simp)
              have kB := kept (show hget w22 (B) = some (.cells (quad v) 24 (0, 0)) by rw [← hw22]; clear hw22; go_simp)
              have kD := kept (show hget w22 (D) = some (.cells (nine (v % pP)) 30 (0, 0)) by rw [← hw22]; clear hw22; go_simp)
              have b22 : Hid (Below W.heap.size W w22) := by rw [← hw22]; repeat (first | exact Below.refl _ _ | exact below_new _ | exact b21.out | assumption | refine Below.drew ?_ | refine Below.drewN ?_ _ | refine below_alloc ?_ _ | refine below_blk' ?_ (by omega) _)
              rw [hw22]
              clear hw22
              try clear gA lA nA mA
              try clear jA
              have jA := kA.later
              obtain ⟨gA, lA, nA, mA⟩ := kA
              try clear gC lC nC mC
              try clear jC
              have jC := kC.later
              obtain ⟨gC, lC, nC, mC⟩ := kC
              try clear gB lB nB mB
              try clear jB
              have jB := kB.later
              obtain ⟨gB, lB, nB, mB⟩ := kB
              try clear gD lD nD mD
              try clear jD
              have jD := kD.later
              obtain ⟨gD, lD, nD, mD⟩ := kD
              clear b21
              clear jA jB jC jD
              refine (E2.out _).mono ?_
              rintro e w23 ⟨rfl, hb23⟩
              have kA := Kept.on (kept (b := A) (o := .cells (quad p1) 24 (0, 0)) (by go_simp)) hb23
              have kC := Kept.on (kept (b := C) (o := .cells (nine (p % pP)) 30 (0, 0)) (by go_simp)) hb23
              have b23 : Hid (Below W.heap.size W w23) := below_to (by repeat (first | exact Below.refl _ _ | exact below_new _ | exact b22.out | assumption | refine Below.drew ?_ | refine Below.drewN ?_ _ | refine below_alloc ?_ _ | refine below_blk' ?_ (by omega) _)) hb23
              clear hb23
              try clear gA lA nA mA
              obtain ⟨gA, lA, nA, mA⟩ := kA
              try clear gC lC nC mC
              obtain ⟨gC, lC, nC, mC⟩ := kC
              clear b22
              clear gB gD lB lD nB nD mB mD
              by_cases h7 : k % 7 = 6
              · have hm : (((k : Int) % 7) == 6) = true := by rw [beq_iff_eq]; omega
                go_wp2_with fail
                obtain ⟨w24, hw24⟩ : ∃ w24, blk w23 C (.cells (nine (p1 % pP)) 30 (0, 0)) = w24 := ⟨_, rfl⟩
                have kA := kept (show hget w24 (A) = some (.cells (quad p1) 24 (0, 0)) by rw [← hw24]; clear hw24; go_simp)
                have kC := kept (show hget w24 (C) = some (.cells (nine (p1 % pP)) 30 (0, 0)) by rw [← hw24]; clear hw24; go_simp)
                have b24 : Hid (Below W.heap.size W w24) := by rw [← hw24]; repeat (first | exact Below.refl _ _ | exact below_new _ | exact b23.out | assumption | refine Below.drew ?_ | refine Below.drewN ?_ _ | refine below_alloc ?_ _ | refine below_blk' ?_ (by omega) _)
                rw [hw24]
                clear hw24
                try clear gA lA nA mA
                try clear jA
                have jA := kA.later
                obtain ⟨gA, lA, nA, mA⟩ := kA
                try clear gC lC nC mC
                try clear jC
                have jC := kC.later
                obtain ⟨gC, lC, nC, mC⟩ := kC
                clear b23
                clear jA jC
                refine (his.out _).mono ?_
                rintro e w25 ⟨rfl, hb25⟩
                have kA := Kept.on (kept (b := A) (o := .cells (quad p1) 24 (0, 0)) (by go_simp)) hb25
                have kC := Kept.on (kept (b := C) (o := .cells (nine (p1 % pP)) 30 (0, 0)) (by go_simp)) hb25
                have b25 : Hid (Below W.heap.size W w25) := below_to (by repeat (first | exact Below.refl _ _ | exact below_new _ | exact b24.out | assumption | refine Below.drew ?_ | refine Below.drewN ?_ _ | refine below_alloc ?_ _ | refine below_blk' ?_ (by omega) _)) hb25
                clear hb25
                try clear gA lA nA mA
                obtain ⟨gA, lA, nA, mA⟩ := kA
                try clear gC lC nC mC
                obtain ⟨gC, lC, nC, mC⟩ := kC
                clear b24
                go_wp2_with fail
                exact ⟨⟨k + 1, p1, by omega, by go_num, l1, gA, gC, b25⟩, by simp [intOf]; omega⟩
              · have hm : (((k : Int) % 7) == 6) = false := by rw [beq_eq_false_iff_ne]; omega
                go_wp2_with fail
                exact ⟨⟨k + 1, p1, by omega, by go_num, l1, by go_simp, by go_simp, hid (below_blk' b23.out wC _)⟩, by simp [intOf]; omega⟩
            · have t3 : (d == 3) = false := by rw [beq_eq_false_iff_ne]; exact d3
              by_cases d4 : d = 4
              · have t4 : (d == 4) = true := by rw [d4]; rfl
                obtain ⟨p1, hp1⟩ : ∃ p1, addN p p = p1 := ⟨_, rfl⟩
                have e1 := fun w => add_any p p w lp lp
                have e2 := fun w => ref_Add (p % pP) (p % pP) w hcp (Nat.le_of_lt hcp)
                have l1 := add_lt lp lp
                have r1 := add_mod2 p p
                rw [hp1] at e1 l1 r1
                rw [← r1] at e2
                have E1 := hid e1
                have E2 := hid e2
                have his := hid (fun w => is_any p1 (p1 % pP) w l1 rfl)
                clear e1 e2 r1 hp1
                go_wp2_with fail
                refine (E1.out _).mono ?_
                rintro e w21 ⟨rfl, hb21⟩
                have kC := Kept.on (kept (b := C) (o := .cells (nine (p % pP)) 30 (0, 0)) (by go_simp)) hb21
                have kB := Kept.on (kept (b := B) (o := .cells (quad v) 24 (0, 0)) (by go_simp)) hb21
                have kD := Kept.on (kept (b := D) (o := .cells (nine (v % pP)) 30 (0, 0)) (by go_simp)) hb21
                have kA := Kept.on (kept (b := A) (o := .cells (quad p) 24 (0, 0)) (by go_simp)) hb21
                have b21 : Hid (Below W.heap.size W w21) := below_to (by repeat (first | exact Below.refl _ _ | exact below_new _ | exact b18.out | assumption | refine Below.drew ?_ | refine Below.drewN ?_ _ | refine below_alloc ?_ _ | refine below_blk' ?_ (by omega) _)) hb21
                clear hb21
                try clear gC lC nC mC
                obtain ⟨gC, lC, nC, mC⟩ := kC
                try clear gB lB nB mB
                obtain ⟨gB, lB, nB, mB⟩ := kB
                try clear gD lD nD mD
                obtain ⟨gD, lD, nD, mD⟩ := kD
                try clear gA lA nA mA
                obtain ⟨gA, lA, nA, mA⟩ := kA
                clear b18
                go_wp2_with fail
                obtain ⟨w22, hw22⟩ : ∃ w22, blk w21 A (.cells (quad p1) 24 (0, 0)) = w22 := ⟨_, rfl⟩
                have kA := kept (show hget w22 (A) = some (.cells (quad p1) 24 (0, 0)) by rw [← hw22]; clear hw22; go_simp)
                have kC := kept (show hget w22 (C) = some (.cells (nine (p % pP)) 30 (0, 0)) by rw [← hw22]; clear hw22; go_simp)
                have kB := kept (show hget w22 (B) = some (.cells (quad v) 24 (0, 0)) by rw [← hw22]; clear hw22; go_simp)
                have kD := kept (show hget w22 (D) = some (.cells (nine (v % pP)) 30 (0, 0)) by rw [← hw22]; clear hw22; go_simp)
                have b22 : Hid (Below W.heap.size W w22) := by rw [← hw22]; repeat (first | exact Below.refl _ _ | exact below_new _ | exact b21.out | assumption | refine Below.drew ?_ | refine Below.drewN ?_ _ | refine below_alloc ?_ _ | refine below_blk' ?_ (by omega) _)
                rw [hw22]
                clear hw22
                try clear gA lA nA mA
                try clear jA
                have jA := kA.later
                obtain ⟨gA, lA, nA, mA⟩ := kA
                try clear gC lC nC mC
                try clear jC
                have jC := kC.later
                obtain ⟨gC, lC, nC, mC⟩ := kC
                try clear gB lB nB mB
                try clear jB
                have jB := kB.later
                obtain ⟨gB, lB, nB, mB⟩ := kB
                try clear gD lD nD mD
                try clear jD
                have jD := kD.later
                obtain ⟨gD, lD, nD, mD⟩ := kD
                clear b21
                clear jA jB jC jD
                refine (E2.out _).mono ?_
                rintro e w23 ⟨rfl, hb23⟩
                have kA := Kept.on (kept (b := A) (o := .cells (quad p1) 24 (0, 0)) (by go_simp)) hb23
                have kC := Kept.on (kept (b := C) (o := .cells (nine (p % pP)) 30 (0, 0)) (by go_simp)) hb23
                have b23 : Hid (Below W.heap.size W w23) := below_to (by repeat (first | exact Below.refl _ _ | exact below_new _ | exact b22.out | assumption | refine Below.drew ?_ | refine Below.drewN ?_ _ | refine below_alloc ?_ _ | refine below_blk' ?_ (by omega) _)) hb23
                clear hb23
                try clear gA lA nA mA
                obtain ⟨gA, lA, nA, mA⟩ := kA
                try clear gC lC nC mC
                obtain ⟨gC, lC, nC, mC⟩ := kC
                clear b22
                clear gB gD lB lD nB nD mB mD
                by_cases h7 : k % 7 = 6
                · have hm : (((k : Int) % 7) == 6) = true := by rw [beq_iff_eq]; omega
                  go_wp2_with fail
                  obtain ⟨w24, hw24⟩ : ∃ w24, blk w23 C (.cells (nine (p1 % pP)) 30 (0, 0)) = w24 := ⟨_, rfl⟩
                  have kA := kept (show hget w24 (A) = some (.cells (quad p1) 24 (0, 0)) by rw [← hw24]; clear hw24; go_simp)
                  have kC := kept (show hget w24 (C) = some (.cells (nine (p1 % pP)) 30 (0, 0)) by rw [← hw24]; clear hw24; go_simp)
                  have b24 : Hid (Below W.heap.size W w24) := by rw [← hw24]; repeat (first | exact Below.refl _ _ | exact below_new _ | exact b23.out | assumption | refine Below.drew ?_ | refine Below.drewN ?_ _ | refine below_alloc ?_ _ | refine below_blk' ?_ (by omega) _)
                  rw [hw24]
                  clear hw24
                  try clear gA lA nA mA
                  try clear jA
                  have jA := kA.later
                  obtain ⟨gA, lA, nA, mA⟩ := kA
                  try clear gC lC nC mC
                  try clear jC
                  have jC := kC.later
                  obtain ⟨gC, lC, nC, mC⟩ := kC
                  clear b23
                  clear jA jC
                  refine (his.out _).mono ?_
                  rintro e w25 ⟨rfl, hb25⟩
                  have kA := Kept.on (kept (b := A) (o := .cells (quad p1) 24 (0, 0)) (by go_simp)) hb25
                  have kC := Kept.on (kept (b := C) (o := .cells (nine (p1 % pP)) 30 (0, 0)) (by go_simp)) hb25
                  have b25 : Hid (Below W.heap.size W w25) := below_to (by repeat (first | exact Below.refl _ _ | exact below_new _ | exact b24.out | assumption | refine Below.drew ?_ | refine Below.drewN ?_ _ | refine below_alloc ?_ _ | refine below_blk' ?_ (by omega) _)) hb25
                  clear hb25
                  try clear gA lA nA mA
                  obtain ⟨gA, lA, nA, mA⟩ := kA
                  try clear gC lC nC mC
                  obtain ⟨gC, lC, nC, mC⟩ := kC
                  clear b24
                  go_wp2_with fail
                  exact ⟨⟨k + 1, p1, by omega, by go_num, l1, gA, gC, b25⟩, by simp [intOf]; omega⟩
                · have hm : (((k : Int) % 7) == 6) = false := by rw [beq_eq_false_iff_ne]; omega
                  go_wp2_with fail
                  exact ⟨⟨k + 1, p1, by omega, by go_num, l1, by go_simp, by go_simp, hid (below_blk' b23.out wC _)⟩, by simp [intOf]; omega⟩
              · have t4 : (d == 4) = false := by rw [beq_eq_false_iff_ne]; exact d4
                obtain ⟨p1, hp1⟩ : ∃ p1, addN p v = p1 := ⟨_, rfl⟩
                have e1 := fun w => add_any p v w lp lv
                have e2 := fun w => ref_Add (p % pP) (v % pP) w hcp (Nat.le_of_lt hcv)
                have l1 := add_lt lp lv
                have r1 := add_mod2 p v
                rw [hp1] at e1 l1 r1
                rw [← r1] at e2
                have E1 := hid e1
                have E2 := hid e2
                have his := hid (fun w => is_any p1 (p1 % pP) w l1 rfl)
                clear e1 e2 r1 hp1
                go_wp2_with fail
                refine (E1.out _).mono ?_
                rintro e w21 ⟨rfl, hb21⟩
                have kC := Kept.on (kept (b := C) (o := .cells (nine (p % pP)) 30 (0, 0)) (by go_simp)) hb21
                have kB := Kept.on (kept (b := B) (o := .cells (quad v) 24 (0, 0)) (by go_simp)) hb21
                have kD := Kept.on (kept (b := D) (o := .cells (nine (v % pP)) 30 (0, 0)) (by go_simp)) hb21
                have kA := Kept.on (kept (b := A) (o := .cells (quad p) 24 (0, 0)) (by go_simp)) hb21
                have b21 : Hid (Below W.heap.size W w21) := below_to (by repeat (first | exact Below.refl _ _ | exact below_new _ | exact b18.out | assumption | refine Below.drew ?_ | refine Below.drewN ?_ _ | refine below_alloc ?_ _ | refine below_blk' ?_ (by omega) _)) hb21
                clear hb21
                try clear gC lC nC mC
                obtain ⟨gC, lC, nC, mC⟩ := kC
                try clear gB lB nB mB
                obtain ⟨gB, lB, nB, mB⟩ := kB
                try clear gD lD nD mD
                obtain ⟨gD, lD, nD, mD⟩ := kD
                try clear gA lA nA mA
                obtain ⟨gA, lA, nA, mA⟩ := kA
                clear b18
                go_wp2_with fail
                obtain ⟨w22, hw22⟩ : ∃ w22, blk w21 A (.cells (quad p1) 24 (0, 0)) = w22 := ⟨_, rfl⟩
                have kA := kept (show hget w22 (A) = some (.cells (quad p1) 24 (0, 0)) by rw [← hw22]; clear hw22; go_simp)
                have kC := kept (show hget w22 (C) = some (.cells (nine (p % pP)) 30 (0, 0)) by rw [← hw22]; clear hw22; go_simp)
                have kB := kept (show hget w22 (B) = some (.cells (quad v) 24 (0, 0)) by rw [← hw22]; clear hw22; go_simp)
                have kD := kept (show hget w22 (D) = some (.cells (nine (v % pP)) 30 (0, 0)) by rw [← hw22]; clear hw22; go_simp)
                have b22 : Hid (Below W.heap.size W w22) := by rw [← hw22]; repeat (first | exact Below.refl _ _ | exact below_new _ | exact b21.out | assumption | refine Below.drew ?_ | refine Below.drewN ?_ _ | refine below_alloc ?_ _ | refine below_blk' ?_ (by omega) _)
                rw [hw22]
                clear hw22
                try clear gA lA nA mA
                try clear jA
                have jA := kA.later
                obtain ⟨gA, lA, nA, mA⟩ := kA
                try clear gC lC nC mC
                try clear jC
                have jC := kC.later
                obtain ⟨gC, lC, nC, mC⟩ := kC
                try clear gB lB nB mB
                try clear jB
                have jB := kB.later
                obtain ⟨gB, lB, nB, mB⟩ := kB
                try clear gD lD nD mD
                try clear jD
                have jD := kD.later
                obtain ⟨gD, lD, nD, mD⟩ := kD
                clear b21
                clear jA jB jC jD
                refine (E2.out _).mono ?_
                rintro e w23 ⟨rfl, hb23⟩
                have kA := Kept.on (kept (b := A) (o := .cells (quad p1) 24 (0, 0)) (by go_simp)) hb23
                have kC := Kept.on (kept (b := C) (o := .cells (nine (p % pP)) 30 (0, 0)) (by go_simp)) hb23
                have b23 : Hid (Below W.heap.size W w23) := below_to (by repeat (first | exact Below.refl _ _ | exact below_new _ | exact b22.out | assumption | refine Below.drew ?_ | refine Below.drewN ?_ _ | refine below_alloc ?_ _ | refine below_blk' ?_ (by omega) _)) hb23
                clear hb23
                try clear gA lA nA mA
                obtain ⟨gA, lA, nA, mA⟩ := kA
                try clear gC lC nC mC
                obtain ⟨gC, lC, nC, mC⟩ := kC
                clear b22
                clear gB gD lB lD nB nD mB mD
                by_cases h7 : k % 7 = 6
                · have hm : (((k : Int) % 7) == 6) = true := by rw [beq_iff_eq]; omega
                  go_wp2_with fail
                  obtain ⟨w24, hw24⟩ : ∃ w24, blk w23 C (.cells (nine (p1 % pP)) 30 (0, 0)) = w24 := ⟨_, rfl⟩
                  have kA := kept (show hget w24 (A) = some (.cells (quad p1) 24 (0, 0)) by rw [← hw24]; clear hw24; go_simp)
                  have kC := kept (show hget w24 (C) = some (.cells (nine (p1 % pP)) 30 (0, 0)) by rw [← hw24]; clear hw24; go_simp)
                  have b24 : Hid (Below W.heap.size W w24) := by rw [← hw24]; repeat (first | exact Below.refl _ _ | exact below_new _ | exact b23.out | assumption | refine Below.drew ?_ | refine Below.drewN ?_ _ | refine below_alloc ?_ _ | refine below_blk' ?_ (by omega) _)
                  rw [hw24]
                  clear hw24
                  try clear gA lA nA mA
                  try clear jA
                  have jA := kA.later
                  obtain ⟨gA, lA, nA, mA⟩ := kA
                  try clear gC lC nC mC
                  try clear jC
                  have jC := kC.later
                  obtain ⟨gC, lC, nC, mC⟩ := kC
                  clear b23
                  clear jA jC
                  refine (his.out _).mono ?_
                  rintro e w25 ⟨rfl, hb25⟩
                  have kA := Kept.on (kept (b := A) (o := .cells (quad p1) 24 (0, 0)) (by go_simp)) hb25
                  have kC := Kept.on (kept (b := C) (o := .cells (nine (p1 % pP)) 30 (0, 0)) (by go_simp)) hb25
                  have b25 : Hid (Below W.heap.size W w25) := below_to (by repeat (first | exact Below.refl _ _ | exact below_new _ | exact b24.out | assumption | refine Below.drew ?_ | refine Below.drewN ?_ _ | refine below_alloc ?_ _ | refine below_blk' ?_ (by omega) _)) hb25
                  clear hb25
                  try clear gA lA nA mA
                  obtain ⟨gA, lA, nA, mA⟩ := kA
                  try clear gC lC nC mC
                  obtain ⟨gC, lC, nC, mC⟩ := kC
                  clear b24
                  go_wp2_with fail
                  exact ⟨⟨k + 1, p1, by omega, by go_num, l1, gA, gC, b25⟩, by simp [intOf]; omega⟩
                · have hm : (((k : Int) % 7) == 6) = false := by rw [beq_eq_false_iff_ne]; omega
                  go_wp2_with fail
                  exact ⟨⟨k + 1, p1, by omega, by go_num, l1, by go_simp, by go_simp, hid (below_blk' b23.out wC _)⟩, by simp [intOf]; omega⟩
    · have hkd : decide ((k : Int) < len) = false := decide_eq_false (by omega)
      have his := hid (fun w => is_any p (p % pP) w lp rfl)
      go_wp2_with fail
      refine (his.out _).mono ?_
      rintro e w31 ⟨rfl, hb31⟩
      have b31 : Hid (Below W.heap.size W w31) := below_to (by repeat (first | exact Below.refl _ _ | exact below_new _ | exact qb.out | assumption | refine Below.drew ?_ | refine Below.drewN ?_ _ | refine below_alloc ?_ _ | refine below_blk' ?_ (by omega) _)) hb31
      clear hb31
      clear qb
      go_wp2_with fail
      refine (alive_any _).mono ?_
      rintro e w32 ⟨rfl, hb32⟩
      have b32 : Hid (Below W.heap.size W w32) := below_to (by repeat (first | exact Below.refl _ _ | exact below_new _ | exact b31.out | assumption | refine Below.drew ?_ | refine Below.drewN ?_ _ | refine below_alloc ?_ _ | refine below_blk' ?_ (by omega) _)) hb32
      clear hb32
      clear b31
      go_wp2_with fail
      go_ret
      exact ⟨rfl, b32.out⟩

end Go.Proofs.Ytoaihbmicdbaiaa
