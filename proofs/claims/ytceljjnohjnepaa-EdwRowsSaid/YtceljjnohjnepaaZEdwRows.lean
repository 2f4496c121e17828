/- The law EdwRows: for every input it returns true and leaves its arguments as they were. -/
import Derived.Test.YtceljjnohjnepaaM18
import Derived.Test.YtceljjnohjnepaaM01
namespace Go.Proofs.Ytceljjnohjnepaa
open Go Go.RowKit DG EG
attribute [local go_sem ↓] exl_Elem exs_Elem exl_Pt exs_Pt exb_Pt exl_RPt exs_RPt exb_RPt
                       attribute [local go_sem] ldr_Pt str_Pt to_quad0 pt_zero bld_pt bld_pt0 ldr_RPt str_RPt to_nine0 rpt_zero bld_rpt bld_rpt0

set_option maxRecDepth 100000 in
set_option maxHeartbeats 2000000 in
theorem erows_bad (s : ByteArray) (ad : Option Addr) (len cap : Nat) (x y z k : Nat) (i : Bool) (c : Int) (W : World) (h1 : decV s = .tuple #[.agg (pt x y z k i), .int .i64 c]) (hs : s.size ≤ 9223372036854775807) (_hlen : len ≤ 9223372036854775807) (h : ((c != 0) || decide (40 < (len : Int))) = true) :
    Calls Try.prog 7 #[.string s, .slice ad len cap] W fun e w' => e = .returned (.bool true) ∧ Below W.heap.size W w' := by
  have D1 := hid (fun w => h1 ▸ pdecode_v s w hs)
  have L1 := hid (fun w => alive_any w)
  clear h1
  obtain ⟨t1, e1⟩ : ∃ t1, (c != 0) = t1 := ⟨_, rfl⟩
  obtain ⟨t2, e2⟩ : ∃ t1, decide (40 < (len : Int)) = t1 := ⟨_, rfl⟩
  rw [e1, e2] at h
  go_enter Try.func7, Try.ntmps7
  go_wp2_with fail
  refine (D1.out _).mono ?_
  rintro e w1 ⟨rfl, hb1⟩
  have b1 := hid hb1
  clear hb1
  go_upto_region 2 with (fail)
  skip
  obtain ⟨A, hA⟩ : ∃ b, w1.heap.size = b := ⟨_, rfl⟩
  have wA : W.heap.size ≤ A := by rw [← hA]; exact b1.out.size
  obtain ⟨w2, hw2⟩ : ∃ w2, w1.alloc (.cells (pt x y z k i) 42) = w2 := ⟨_, rfl⟩
  have kA := kept (show hget w2 (w1.heap.size) = some (.cells (pt x y z k i) 42) by rw [← hw2]; clear hw2; go_simp)
  have b2 : Hid (Below W.heap.size W w2) := by rw [← hw2]; repeat (first | exact Below.refl _ _ | exact below_new _ | exact b1.out | assumption | refine Below.drew ?_ | refine Below.drewN ?_ _ | refine below_alloc ?_ _ | refine below_blk' ?_ (by omega) _)
  rw [hw2]
  clear hw2
  try clear gA lA nA mA
  try clear jA
  have jA := kA.later
  obtain ⟨gA, lA, nA, mA⟩ := kA
  clear b1
  rw [hA] at *
  clear hA
  skip
  cases t1
  · have ht2 : t2 = true := by simpa using h
    subst ht2
    go_wp2_with fail
    try clear jA
    refine (L1.out _).mono ?_
    rintro e w3 ⟨rfl, hb3⟩
    have kA := Kept.on (kept (b := A) (o := .cells (pt x y z k i) 42 (0, 0)) (by go_simp)) hb3
    have b3 : Hid (Below W.heap.size W w3) := below_to (by repeat (first | exact Below.refl _ _ | exact below_new _ | exact b2.out | assumption | refine Below.drew ?_ | refine Below.drewN ?_ _ | refine below_alloc ?_ _ | refine below_blk' ?_ (by omega) _)) hb3
    clear hb3
    try clear gA lA nA mA
    obtain ⟨gA, lA, nA, mA⟩ := kA
    clear b2
    go_wp2_with fail
    go_ret
    exact ⟨rfl, b3.out⟩
  · skip
    go_wp2_with fail
    try clear jA
    refine (L1.out _).mono ?_
    rintro e w3 ⟨rfl, hb3⟩
    have kA := Kept.on (kept (b := A) (o := .cells (pt x y z k i) 42 (0, 0)) (by go_simp)) hb3
    have b3 : Hid (Below W.heap.size W w3) := below_to (by repeat (first | exact Below.refl _ _ | exact below_new _ | exact b2.out | assumption | refine Below.drew ?_ | refine Below.drewN ?_ _ | refine below_alloc ?_ _ | refine below_blk' ?_ (by omega) _)) hb3
    clear hb3
    try clear gA lA nA mA
    obtain ⟨gA, lA, nA, mA⟩ := kA
    clear b2
    go_wp2_with fail
    go_ret
    exact ⟨rfl, b3.out⟩

set_option maxRecDepth 100000 in
theorem decV_ok {s : ByteArray} (h : dOk s = true) : decV s = .tuple #[pv (dP s), .int .i64 0] := by unfold decV; rw [if_pos h]
set_option maxRecDepth 100000 in
theorem rdecV_ok {s : ByteArray} (h : dOk s = true) : rdecV s = .tuple #[rv (rP s), .int .i64 0] := by unfold rdecV; rw [if_pos h]
set_option maxRecDepth 100000 in
set_option maxHeartbeats 8000000 in
theorem erows_ok (s : ByteArray) (ad : Option Addr) (len cap : Nat) (ss : Nat → ByteArray) (p0 : P4) (x0 : R3) (Q0 : Pt cv) (W : World) (h1 : decV s = .tuple #[pv p0, .int .i64 0]) (h2 : rdecV s = .tuple #[rv x0, .int .i64 0]) (hp0 : p0.ok Q0) (hx0 : x0.ok Q0) (hs : s.size ≤ 9223372036854775807) (hlen : len ≤ 40)
    (hss : ∀ j, j < len → (ss j).size ≤ 9223372036854775807) (hat : len = 0 ∨ ∃ b off, ad = some ⟨b, off, none⟩ ∧ b < W.heap.size ∧ ∀ j, j < len → W.cell? ⟨b, off + j, none⟩ = some (.string (ss j))) :
    Calls Try.prog 7 #[.string s, .slice ad len cap] W fun e w' => e = .returned (.bool true) ∧ Below W.heap.size W w' := by
  have D1 := hid (fun w => h1 ▸ pdecode_v s w hs)
  have D2 := hid (fun w => h2 ▸ rdecode_v s w hs)
  have L1 := hid (fun w => alive_any w)
  have g40 : decide (40 < (len : Int)) = false := decide_eq_false (by omega)
  have HAT := hid hat
  have HSS := hid hss
  clear h1 h2 hs hat hss
  go_enter Try.func7, Try.ntmps7
  go_wp2_with fail
  refine (D1.out _).mono ?_
  rintro e w1 ⟨rfl, hb1⟩
  have b1 := hid hb1
  clear hb1
  go_upto_region 2 with (fail)
  skip
  obtain ⟨A, hA⟩ : ∃ b, w1.heap.size = b := ⟨_, rfl⟩
  have wA : W.heap.size ≤ A := by rw [← hA]; exact b1.out.size
  obtain ⟨w2, hw2⟩ : ∃ w2, w1.alloc (.cells (pt p0.x p0.y p0.z p0.t true) 42) = w2 := ⟨_, rfl⟩
  have kA := kept (show hget w2 (w1.heap.size) = some (.cells (pt p0.x p0.y p0.z p0.t true) 42) by rw [← hw2]; clear hw2; go_simp)
  have b2 : Hid (Below W.heap.size W w2) := by rw [← hw2]; repeat (first | exact Below.refl _ _ | exact below_new _ | exact b1.out | assumption | refine Below.drew ?_ | refine Below.drewN ?_ _ | refine below_alloc ?_ _ | refine below_blk' ?_ (by omega) _)
  rw [hw2]
  clear hw2
  try clear gA lA nA mA
  try clear jA
  have jA := kA.later
  obtain ⟨gA, lA, nA, mA⟩ := kA
  clear b1
  rw [hA] at *
  clear hA
  go_wp2_with fail
  try clear jA
  refine (D2.out _).mono ?_
  rintro e w3 ⟨rfl, hb3⟩
  have kA := Kept.on (kept (b := A) (o := .cells (pt p0.x p0.y p0.z p0.t true) 42 (0, 0)) (by go_simp)) hb3
  have b3 : Hid (Below W.heap.size W w3) := below_to (by repeat (first | exact Below.refl _ _ | exact below_new _ | exact b2.out | assumption | refine Below.drew ?_ | refine Below.drewN ?_ _ | refine below_alloc ?_ _ | refine below_blk' ?_ (by omega) _)) hb3
  clear hb3
  try clear gA lA nA mA
  obtain ⟨gA, lA, nA, mA⟩ := kA
  clear b2
  go_upto_region 5 with (fail)
  obtain ⟨C, hC⟩ : ∃ b, w3.heap.size = b := ⟨_, rfl⟩
  have wC : W.heap.size ≤ C := by rw [← hC]; exact b3.out.size
  have eAC : (A = C) = False := by rw [← hC]; exact nA
  have eCA : (C = A) = False := by rw [← hC]; exact mA
  obtain ⟨w4, hw4⟩ : ∃ w4, w3.alloc (.cells (rpt x0.x x0.y x0.z) 46) = w4 := ⟨_, rfl⟩
  have kA := kept (show hget w4 (A) = some (.cells (pt p0.x p0.y p0.z p0.t true) 42 (0, 0)) by rw [← hw4]; clear hw4; go_simp)
  have kC := kept (show hget w4 (w3.heap.size) = some (.cells (rpt x0.x x0.y x0.z) 46) by rw [← hw4]; clear hw4; go_simp)
  have b4 : Hid (Below W.heap.size W w4) := by rw [← hw4]; repeat (first | exact Below.refl _ _ | exact below_new _ | exact b3.out | assumption | refine Below.drew ?_ | refine Below.drewN ?_ _ | refine below_alloc ?_ _ | refine below_blk' ?_ (by omega) _)
  rw [hw4]
  clear hw4
  try clear gA lA nA mA
  try clear jA
  have jA := kA.later
  obtain ⟨gA, lA, nA, mA⟩ := kA
  try clear gC lC nC mC
  try clear jC
  have jC := kC.later
  obtain ⟨gC, lC, nC, mC⟩ := kC
  clear b3
  rw [hC] at *
  clear hC
  clear jA jC lA nA mA lC nC mC D1 D2
  go_wp2_with fail
  go_loopw [9] (fun i wr => ∃ (k : Nat) (p : P4) (x : R3) (Q : Pt cv), k ≤ len ∧ i = .int .i64 (k : Int) ∧ p.ok Q ∧ x.ok Q ∧ hget wr A = some (.cells (pt p.x p.y p.z p.t true) 42 (0, 0)) ∧ hget wr C = some (.cells (rpt x.x x.y x.z) 46 (0, 0)) ∧ Below W.heap.size W wr) (fun i _ => (len - intOf i).toNat)
  case atStart => exact ⟨0, p0, x0, Q0, by omega, rfl, hp0, hx0, gA, gC, b4.out⟩
  case round =>
    clear gA gC b4
    obtain ⟨k, p, x, Q, hk, rfl, hp, hx, fA, fC, hb20⟩ := hrel
    obtain ⟨w20, hw20⟩ : ∃ w20, w20 = wr := ⟨_, rfl⟩
    subst hw20
    have b20 := hid hb20
    by_cases hlt : k < len
    · obtain ⟨b, off, rfl, hbW, hc⟩ := HAT.out.resolve_left (by omega)
      have hcell : ∀ w', Below W.heap.size W w' → w'.cell? ⟨b, off + k, none⟩ = some (.string (ss k)) := fun w' h => (h.cell (p := ⟨b, off + k, none⟩) hbW).trans (hc k hlt)
      have hsz := HSS.out k hlt
      clear hb20 hc
      obtain ⟨t, ht⟩ : ∃ t, ss k = t := ⟨_, rfl⟩
      rw [ht] at hcell hsz
      clear ht
      have HC := hid hcell
      clear hcell
      have hc20 := HC.out w20 b20.out
      have hkd : decide ((k : Int) < (len : Int)) = true := decide_eq_true (by omega)
      obtain ⟨t1, e1⟩ : ∃ t1, decide (40 < (t.size : Int)) = t1 := ⟨_, rfl⟩
      obtain ⟨gA, lA, nA, mA⟩ := kept (show hget w20 (A) = some (.cells (pt p.x p.y p.z p.t true) 42 (0, 0)) by first | assumption | go_simp)
      obtain ⟨gC, lC, nC, mC⟩ := kept (show hget w20 (C) = some (.cells (rpt x.x x.y x.z) 46 (0, 0)) by first | assumption | go_simp)
      clear fA fC
      skip
      cases t1
      · by_cases hd : dOk t = true
        · have E1 := hid (fun w => decV_ok hd ▸ pdecode_v t w hsz)
          have E2 := hid (fun w => rdecV_ok hd ▸ rdecode_v t w hsz)
          have q1 := dP_ok hd
          have r1 := rP_ok hd
          generalize dP t = q at *
          generalize rP t = r at *
          have A1 := hid (fun w => padd_v p q w hp.bd q1.bd)
          have A2 := hid (fun w => radd_pt x r w hx.bd r1.bd)
          go_wp2_with fail
          try clear jA jC
          refine (E1.out _).mono ?_
          rintro e w21 ⟨rfl, hb21⟩
          have kA := Kept.on (kept (b := A) (o := .cells (pt p.x p.y p.z p.t true) 42 (0, 0)) (by go_simp)) hb21
          have kC := Kept.on (kept (b := C) (o := .cells (rpt x.x x.y x.z) 46 (0, 0)) (by go_simp)) hb21
          have b21 : Hid (Below W.heap.size W w21) := below_to (by repeat (first | exact Below.refl _ _ | exact below_new _ | exact b20.out | assumption | refine Below.drew ?_ | refine Below.drewN ?_ _ | refine below_alloc ?_ _ | refine below_blk' ?_ (by omega) _)) hb21
          clear hb21
          try clear gA lA nA mA
          obtain ⟨gA, lA, nA, mA⟩ := kA
          try clear gC lC nC mC
          obtain ⟨gC, lC, nC, mC⟩ := kC
          clear b20
          clear hc20
          go_upto_region 11 with (fail)
          obtain ⟨B, hB⟩ : ∃ b, w21.heap.size = b := ⟨_, rfl⟩
          have wB : W.heap.size ≤ B := by rw [← hB]; exact b21.out.size
          have eAB : (A = B) = False := by rw [← hB]; exact nA
          have eBA : (B = A) = False := by rw [← hB]; exact mA
          have eCB : (C = B) = False := by rw [← hB]; exact nC
          have eBC : (B = C) = False := by rw [← hB]; exact mC
          obtain ⟨w22, hw22⟩ : ∃ w22, w21.alloc (.cells (pt q.x q.y q.z q.t true) 42) = w22 := ⟨_, rfl⟩
          have kA := kept (show hget w22 (A) = some (.cells (pt p.x p.y p.z p.t true) 42 (0, 0)) by rw [← hw22]; clear hw22; go_simp)
          have kC := kept (show hget w22 (C) = some (.cells (rpt x.x x.y x.z) 46 (0, 0)) by rw [← hw22]; clear hw22; go_simp)
          have kB := kept (show hget w22 (w21.heap.size) = some (.cells (pt q.x q.y q.z q.t true) 42) by rw [← hw22]; clear hw22; go_simp)
          have b22 : Hid (Below W.heap.size W w22) := by rw [← hw22]; repeat (first | exact Below.refl _ _ | exact below_new _ | exact b21.out | assumption | refine Below.drew ?_ | refine Below.drewN ?_ _ | refine below_alloc ?_ _ | refine below_blk' ?_ (by omega) _)
          rw [hw22]
          clear hw22
          try clear gA lA nA mA
          try clear jA
          have jA := kA.later
          obtain ⟨gA, lA, nA, mA⟩ := kA
          try clear gC lC nC mC
          try clear jC
          have jC := kC.later
          obtain ⟨gC, lC, nC, mC⟩ := kC
          try clear gB lB nB mB
          try clear jB
          have jB := kB.later
          obtain ⟨gB, lB, nB, mB⟩ := kB
          clear b21
          rw [hB] at *
          clear hB
          have hc22 := HC.out w22 b22.out
          go_wp2_with fail
          try clear jA jC jB
          refine (E2.out _).mono ?_
          rintro e w23 ⟨rfl, hb23⟩
          have kA := Kept.on (kept (b := A) (o := .cells (pt p.x p.y p.z p.t true) 42 (0, 0)) (by go_simp)) hb23
          have kC := Kept.on (kept (b := C) (o := .cells (rpt x.x x.y x.z) 46 (0, 0)) (by go_simp)) hb23
          have kB := Kept.on (kept (b := B) (o := .cells (pt q.x q.y q.z q.t true) 42 (0, 0)) (by go_simp)) hb23
          have b23 : Hid (Below W.heap.size W w23) := below_to (by repeat (first | exact Below.refl _ _ | exact below_new _ | exact b22.out | assumption | refine Below.drew ?_ | refine Below.drewN ?_ _ | refine below_alloc ?_ _ | refine below_blk' ?_ (by omega) _)) hb23
          clear hb23
          try clear gA lA nA mA
          obtain ⟨gA, lA, nA, mA⟩ := kA
          try clear gC lC nC mC
          obtain ⟨gC, lC, nC, mC⟩ := kC
          try clear gB lB nB mB
          obtain ⟨gB, lB, nB, mB⟩ := kB
          clear b22
          clear hc22
          go_upto_region 13 with (fail)
          obtain ⟨D, hD⟩ : ∃ b, w23.heap.size = b := ⟨_, rfl⟩
          have wD : W.heap.size ≤ D := by rw [← hD]; exact b23.out.size
          have eAD : (A = D) = False := by rw [← hD]; exact nA
          have eDA : (D = A) = False := by rw [← hD]; exact mA
          have eCD : (C = D) = False := by rw [← hD]; exact nC
          have eDC : (D = C) = False := by rw [← hD]; exact mC
          have eBD : (B = D) = False := by rw [← hD]; exact nB
          have eDB : (D = B) = False := by rw [← hD]; exact mB
          obtain ⟨w24, hw24⟩ : ∃ w24, w23.alloc (.cells (rpt r.x r.y r.z) 46) = w24 := ⟨_, rfl⟩
          have kA := kept (show hget w24 (A) = some (.cells (pt p.x p.y p.z p.t true) 42 (0, 0)) by rw [← hw24]; clear hw24; go_simp)
          have kC := kept (show hget w24 (C) = some (.cells (rpt x.x x.y x.z) 46 (0, 0)) by rw [← hw24]; clear hw24; go_simp)
          have kB := kept (show hget w24 (B) = some (.cells (pt q.x q.y q.z q.t true) 42 (0, 0)) by rw [← hw24]; clear hw24; go_simp)
          have kD := kept (show hget w24 (w23.heap.size) = some (.cells (rpt r.x r.y r.z) 46) by rw [← hw24]; clear hw24; go_simp)
          have b24 : Hid (Below W.heap.size W w24) := by rw [← hw24]; repeat (first | exact Below.refl _ _ | exact below_new _ | exact b23.out | assumption | refine Below.drew ?_ | refine Below.drewN ?_ _ | refine below_alloc ?_ _ | refine below_blk' ?_ (by omega) _)
          rw [hw24]
          clear hw24
          try clear gA lA nA mA
          try clear jA
          have jA := kA.later
          obtain ⟨gA, lA, nA, mA⟩ := kA
          try clear gC lC nC mC
          try clear jC
          have jC := kC.later
          obtain ⟨gC, lC, nC, mC⟩ := kC
          try clear gB lB nB mB
          try clear jB
          have jB := kB.later
          obtain ⟨gB, lB, nB, mB⟩ := kB
          try clear gD lD nD mD
          try clear jD
          have jD := kD.later
          obtain ⟨gD, lD, nD, mD⟩ := kD
          clear b23
          rw [hD] at *
          clear hD
          go_wp2_with fail
          try clear jA jC jB jD
          refine (A1.out _).mono ?_
          rintro e w25 ⟨rfl, hb25⟩
          have kA := Kept.on (kept (b := A) (o := .cells (pt p.x p.y p.z p.t true) 42 (0, 0)) (by go_simp)) hb25
          have kC := Kept.on (kept (b := C) (o := .cells (rpt x.x x.y x.z) 46 (0, 0)) (by go_simp)) hb25
          have kB := Kept.on (kept (b := B) (o := .cells (pt q.x q.y q.z q.t true) 42 (0, 0)) (by go_simp)) hb25
          have kD := Kept.on (kept (b := D) (o := .cells (rpt r.x r.y r.z) 46 (0, 0)) (by go_simp)) hb25
          have b25 : Hid (Below W.heap.size W w25) := below_to (by repeat (first | exact Below.refl _ _ | exact below_new _ | exact b24.out | assumption | refine Below.drew ?_ | refine Below.drewN ?_ _ | refine below_alloc ?_ _ | refine below_blk' ?_ (by omega) _)) hb25
          clear hb25
          try clear gA lA nA mA
          obtain ⟨gA, lA, nA, mA⟩ := kA
          try clear gC lC nC mC
          obtain ⟨gC, lC, nC, mC⟩ := kC
          try clear gB lB nB mB
          obtain ⟨gB, lB, nB, mB⟩ := kB
          try clear gD lD nD mD
          obtain ⟨gD, lD, nD, mD⟩ := kD
          clear b24
          go_wp2_with fail
          obtain ⟨w26, hw26⟩ : ∃ w26, blk w25 (A) (.cells (pt (p.add q).x (p.add q).y (p.add q).z (p.add q).t true) 42 (0, 0)) = w26 := ⟨_, rfl⟩
          have kA := kept (show hget w26 (A) = some (.cells (pt (p.add q).x (p.add q).y (p.add q).z (p.add q).t true) 42 (0, 0)) by rw [← hw26]; clear hw26; go_simp)
          have kC := kept (show hget w26 (C) = some (.cells (rpt x.x x.y x.z) 46 (0, 0)) by rw [← hw26]; clear hw26; go_simp)
          have kB := kept (show hget w26 (B) = some (.cells (pt q.x q.y q.z q.t true) 42 (0, 0)) by rw [← hw26]; clear hw26; go_simp)
          have kD := kept (show hget w26 (D) = some (.cells (rpt r.x r.y r.z) 46 (0, 0)) by rw [← hw26]; clear hw26; go_simp)
          have b26 : Hid (Below W.heap.size W w26) := by rw [← hw26]; repeat (first | exact Below.refl _ _ | exact below_new _ | exact b25.out | assumption | refine Below.drew ?_ | refine Below.drewN ?_ _ | refine below_alloc ?_ _ | refine below_blk' ?_ (by omega) _)
          rw [hw26]
          clear hw26
          try clear gA lA nA mA
          try clear jA
          have jA := kA.later
          obtain ⟨gA, lA, nA, mA⟩ := kA
          try clear gC lC nC mC
          try clear jC
          have jC := kC.later
          obtain ⟨gC, lC, nC, mC⟩ := kC
          try clear gB lB nB mB
          try clear jB
          have jB := kB.later
          obtain ⟨gB, lB, nB, mB⟩ := kB
          try clear gD lD nD mD
          try clear jD
          have jD := kD.later
          obtain ⟨gD, lD, nD, mD⟩ := kD
          clear b25
          try clear jA jC jB jD
          refine (A2.out _).mono ?_
          rintro e w27 ⟨rfl, hb27⟩
          have kA := Kept.on (kept (b := A) (o := .cells (pt (p.add q).x (p.add q).y (p.add q).z (p.add q).t true) 42 (0, 0)) (by go_simp)) hb27
          have kC := Kept.on (kept (b := C) (o := .cells (rpt x.x x.y x.z) 46 (0, 0)) (by go_simp)) hb27
          have kB := Kept.on (kept (b := B) (o := .cells (pt q.x q.y q.z q.t true) 42 (0, 0)) (by go_simp)) hb27
          have kD := Kept.on (kept (b := D) (o := .cells (rpt r.x r.y r.z) 46 (0, 0)) (by go_simp)) hb27
          have b27 : Hid (Below W.heap.size W w27) := below_to (by repeat (first | exact Below.refl _ _ | exact below_new _ | exact b26.out | assumption | refine Below.drew ?_ | refine Below.drewN ?_ _ | refine below_alloc ?_ _ | refine below_blk' ?_ (by omega) _)) hb27
          clear hb27
          try clear gA lA nA mA
          obtain ⟨gA, lA, nA, mA⟩ := kA
          try clear gC lC nC mC
          obtain ⟨gC, lC, nC, mC⟩ := kC
          try clear gB lB nB mB
          obtain ⟨gB, lB, nB, mB⟩ := kB
          try clear gD lD nD mD
          obtain ⟨gD, lD, nD, mD⟩ := kD
          clear b26
          go_wp2_with fail
          exact ⟨⟨k + 1, p.add q, x.add r, Q.add (dPt _ hd), by omega, by go_num, P4.add_ok hp q1, R3.add_ok hx r1, by go_simp, by go_simp, below_blk' b27.out (by omega) _⟩, by simp [intOf]; omega⟩
        · skip
          obtain ⟨c, hcv, hcn⟩ : ∃ c : Int, decV t = .tuple #[noPt, .int .i64 c] ∧ (c == 0) = false := ⟨if t.size = 32 then 90 else 2, by unfold decV; rw [if_neg hd], by split <;> decide⟩
          have E1 := hid (fun w => hcv ▸ pdecode_v t w hsz)
          have A1 := hid (fun w => ptwice_v p w hp.bd)
          have A2 := hid (fun w => radd_pt x x w hx.bd hx.bd)
          clear hcv
          go_wp2_with fail
          try clear jA jC
          refine (E1.out _).mono ?_
          rintro e w21 ⟨rfl, hb21⟩
          have kA := Kept.on (kept (b := A) (o := .cells (pt p.x p.y p.z p.t true) 42 (0, 0)) (by go_simp)) hb21
          have kC := Kept.on (kept (b := C) (o := .cells (rpt x.x x.y x.z) 46 (0, 0)) (by go_simp)) hb21
          have b21 : Hid (Below W.heap.size W w21) := below_to (by repeat (first | exact Below.refl _ _ | exact below_new _ | exact b20.out | assumption | refine Below.drew ?_ | refine Below.drewN ?_ _ | refine below_alloc ?_ _ | refine below_blk' ?_ (by omega) _)) hb21
          clear hb21
          try clear gA lA nA mA
          obtain ⟨gA, lA, nA, mA⟩ := kA
          try clear gC lC nC mC
          obtain ⟨gC, lC, nC, mC⟩ := kC
          clear b20
          clear hc20
          go_upto_region 11 with (fail)
          obtain ⟨B, hB⟩ : ∃ b, w21.heap.size = b := ⟨_, rfl⟩
          have wB : W.heap.size ≤ B := by rw [← hB]; exact b21.out.size
          have eAB : (A = B) = False := by rw [← hB]; exact nA
          have eBA : (B = A) = False := by rw [← hB]; exact mA
          have eCB : (C = B) = False := by rw [← hB]; exact nC
          have eBC : (B = C) = False := by rw [← hB]; exact mC
          obtain ⟨w22, hw22⟩ : ∃ w22, w21.alloc (.cells (pt 0 0 0 0 false) 42) = w22 := ⟨_, rfl⟩
          have kA := kept (show hget w22 (A) = some (.cells (pt p.x p.y p.z p.t true) 42 (0, 0)) by rw [← hw22]; clear hw22; go_simp)
          have kC := kept (show hget w22 (C) = some (.cells (rpt x.x x.y x.z) 46 (0, 0)) by rw [← hw22]; clear hw22; go_simp)
          have kB := kept (show hget w22 (w21.heap.size) = some (.cells (pt 0 0 0 0 false) 42) by rw [← hw22]; clear hw22; go_simp)
          have b22 : Hid (Below W.heap.size W w22) := by rw [← hw22]; repeat (first | exact Below.refl _ _ | exact below_new _ | exact b21.out | assumption | refine Below.drew ?_ | refine Below.drewN ?_ _ | refine below_alloc ?_ _ | refine below_blk' ?_ (by omega) _)
          rw [hw22]
          clear hw22
          try clear gA lA nA mA
          try clear jA
          have jA := kA.later
          obtain ⟨gA, lA, nA, mA⟩ := kA
          try clear gC lC nC mC
          try clear jC
          have jC := kC.later
          obtain ⟨gC, lC, nC, mC⟩ := kC
          try clear gB lB nB mB
          try clear jB
          have jB := kB.later
          obtain ⟨gB, lB, nB, mB⟩ := kB
          clear b21
          rw [hB] at *
          clear hB
          go_wp2_with fail
          try clear jA jC jB
          refine (A1.out _).mono ?_
          rintro e w23 ⟨rfl, hb23⟩
          have kA := Kept.on (kept (b := A) (o := .cells (pt p.x p.y p.z p.t true) 42 (0, 0)) (by go_simp)) hb23
          have kC := Kept.on (kept (b := C) (o := .cells (rpt x.x x.y x.z) 46 (0, 0)) (by go_simp)) hb23
          have kB := Kept.on (kept (b := B) (o := .cells (pt 0 0 0 0 false) 42 (0, 0)) (by go_simp)) hb23
          have b23 : Hid (Below W.heap.size W w23) := below_to (by repeat (first | exact Below.refl _ _ | exact below_new _ | exact b22.out | assumption | refine Below.drew ?_ | refine Below.drewN ?_ _ | refine below_alloc ?_ _ | refine below_blk' ?_ (by omega) _)) hb23
          clear hb23
          try clear gA lA nA mA
          obtain ⟨gA, lA, nA, mA⟩ := kA
          try clear gC lC nC mC
          obtain ⟨gC, lC, nC, mC⟩ := kC
          try clear gB lB nB mB
          obtain ⟨gB, lB, nB, mB⟩ := kB
          clear b22
          go_wp2_with fail
          obtain ⟨w24, hw24⟩ : ∃ w24, blk w23 (A) (.cells (pt p.twice.x p.twice.y p.twice.z p.twice.t true) 42 (0, 0)) = w24 := ⟨_, rfl⟩
          have kA := kept (show hget w24 (A) = some (.cells (pt p.twice.x p.twice.y p.twice.z p.twice.t true) 42 (0, 0)) by rw [← hw24]; clear hw24; go_simp)
          have kC := kept (show hget w24 (C) = some (.cells (rpt x.x x.y x.z) 46 (0, 0)) by rw [← hw24]; clear hw24; go_simp)
          have kB := kept (show hget w24 (B) = some (.cells (pt 0 0 0 0 false) 42 (0, 0)) by rw [← hw24]; clear hw24; go_simp)
          have b24 : Hid (Below W.heap.size W w24) := by rw [← hw24]; repeat (first | exact Below.refl _ _ | exact below_new _ | exact b23.out | assumption | refine Below.drew ?_ | refine Below.drewN ?_ _ | refine below_alloc ?_ _ | refine below_blk' ?_ (by omega) _)
          rw [hw24]
          clear hw24
          try clear gA lA nA mA
          try clear jA
          have jA := kA.later
          obtain ⟨gA, lA, nA, mA⟩ := kA
          try clear gC lC nC mC
          try clear jC
          have jC := kC.later
          obtain ⟨gC, lC, nC, mC⟩ := kC
          try clear gB lB nB mB
          try clear jB
          have jB := kB.later
          obtain ⟨gB, lB, nB, mB⟩ := kB
          clear b23
          try clear jA jC jB
          refine (A2.out _).mono ?_
          rintro e w25 ⟨rfl, hb25⟩
          have kA := Kept.on (kept (b := A) (o := .cells (pt p.twice.x p.twice.y p.twice.z p.twice.t true) 42 (0, 0)) (by go_simp)) hb25
          have kC := Kept.on (kept (b := C) (o := .cells (rpt x.x x.y x.z) 46 (0, 0)) (by go_simp)) hb25
          have kB := Kept.on (kept (b := B) (o := .cells (pt 0 0 0 0 false) 42 (0, 0)) (by go_simp)) hb25
          have b25 : Hid (Below W.heap.size W w25) := below_to (by repeat (first | exact Below.refl _ _ | exact below_new _ | exact b24.out | assumption | refine Below.drew ?_ | refine Below.drewN ?_ _ | refine below_alloc ?_ _ | refine below_blk' ?_ (by omega) _)) hb25
          clear hb25
          try clear gA lA nA mA
          obtain ⟨gA, lA, nA, mA⟩ := kA
          try clear gC lC nC mC
          obtain ⟨gC, lC, nC, mC⟩ := kC
          try clear gB lB nB mB
          obtain ⟨gB, lB, nB, mB⟩ := kB
          clear b24
          go_wp2_with fail
          exact ⟨⟨k + 1, p.twice, x.add x, Q.add Q, by omega, by go_num, P4.twice_ok hp, R3.add_ok hx hx, by go_simp, by go_simp, below_blk' b25.out (by omega) _⟩, by simp [intOf]; omega⟩
      · skip
        go_wp2_with fail
        try clear jA jC
        refine (L1.out _).mono ?_
        rintro e w21 ⟨rfl, hb21⟩
        have kA := Kept.on (kept (b := A) (o := .cells (pt p.x p.y p.z p.t true) 42 (0, 0)) (by go_simp)) hb21
        have kC := Kept.on (kept (b := C) (o := .cells (rpt x.x x.y x.z) 46 (0, 0)) (by go_simp)) hb21
        have b21 : Hid (Below W.heap.size W w21) := below_to (by repeat (first | exact Below.refl _ _ | exact below_new _ | exact b20.out | assumption | refine Below.drew ?_ | refine Below.drewN ?_ _ | refine below_alloc ?_ _ | refine below_blk' ?_ (by omega) _)) hb21
        clear hb21
        try clear gA lA nA mA
        obtain ⟨gA, lA, nA, mA⟩ := kA
        try clear gC lC nC mC
        obtain ⟨gC, lC, nC, mC⟩ := kC
        clear b20
        go_wp2_with fail
        go_ret
        exact ⟨rfl, b21.out⟩
    · have hkl : k = len := by omega
      subst hkl
      have hkd : decide ((k : Int) < (k : Int)) = false := decide_eq_false (by omega)
      have I1 := hid (fun w => is_pt (p := Q) w hp hx)
      go_wp2_with fail
      refine (I1.out _).mono ?_
      rintro e w21 ⟨rfl, hb21⟩
      have b21 := hid (below_to hb20 hb21)
      clear hb21
      skip
      go_wp2_with fail
      skip
      refine (L1.out _).mono ?_
      rintro e w22 ⟨rfl, hb22⟩
      have b22 : Hid (Below W.heap.size W w22) := below_to (by repeat (first | exact Below.refl _ _ | exact below_new _ | exact b21.out | assumption | refine Below.drew ?_ | refine Below.drewN ?_ _ | refine below_alloc ?_ _ | refine below_blk' ?_ (by omega) _)) hb22
      clear hb22
      clear b21
      go_wp2_with fail
      go_ret
      exact ⟨rfl, b22.out⟩

set_option maxRecDepth 100000 in
theorem erows_any (s : ByteArray) (ad : Option Addr) (len cap : Nat) (ss : Nat → ByteArray) (W : World) (hs : s.size ≤ 9223372036854775807) (hlen : len ≤ 9223372036854775807) (hss : ∀ j, j < len → (ss j).size ≤ 9223372036854775807) (hat : len = 0 ∨ ∃ b off, ad = some ⟨b, off, none⟩ ∧ b < W.heap.size ∧ ∀ j, j < len → W.cell? ⟨b, off + j, none⟩ = some (.string (ss j))) :
    Calls Try.prog 7 #[.string s, .slice ad len cap] W fun e w' => e = .returned (.bool true) ∧ Below W.heap.size W w' := by
  by_cases h : dOk s = true ∧ len ≤ 40
  · exact erows_ok s ad len cap ss (dP s) (rP s) (dPt s h.1) W (decV_ok h.1) (rdecV_ok h.1) (dP_ok h.1) (rP_ok h.1) hs h.2 hss hat
  · obtain ⟨x, y, z, k, i, c, h1, hc⟩ := decV_form s
    refine erows_bad s ad len cap x y z k i c W h1 hs hlen ?_
    by_cases hl : len ≤ 40
    · have hn : ¬ dOk s = true := fun hh => h ⟨hh, hl⟩
      have : (c != 0) = true := by
        cases hcc : (c != 0)
        · exact absurd (hc.1 hcc) hn
        · rfl
      rw [this]; rfl
    · rw [decide_eq_true (show (40 : Int) < (len : Int) by omega), Bool.or_true]

end Go.Proofs.Ytceljjnohjnepaa

namespace Go.Proofs.Ytceljjnohjnepaa
open Go.RowKit Go.Deep

namespace edwRows
open Go.ChangeShapes Go.WideShapes Go.ChangeAt Go.RowKit
open Go.ChangeMaps (open_string shut_string)
set_option maxRecDepth 100000 in
theorem own : ownKnob Try.prog.godebug = none := by kernel_rfl
set_option maxRecDepth 100000 in
theorem laidOut : laidOutB Try.prog = true := by kernel_rfl
set_option maxRecDepth 100000 in
theorem lifted (os : Os) (started : os.Started) (H : Type) (enc : TypeId × Value → H) :
    ReturnsInHanded {} Try.checked os 7 .any (Rows.edwRowsSpec.pre6 enc Try.prog Try.f7 Rows.edwRowsRow.domain false) (Rows.edwRowsSpec.post enc Try.prog Try.f7 false true false false) := by
  refine returnsInHanded_of_change (C := Try.checked) own started (by kernel_rfl) Try.func7
    (ChangeSpec.witness6 (enc := enc) (C := Try.checked) false ⟨#[], #[.string ByteArray.empty, .slice none 0 0], []⟩ 8 (by kernel_rfl) (by kernel_rfl) (by kernel_rfl) (by kernel_rfl)) ?_
  intro W base args ds gs before hval0 hW hcnd _
  have hval : ∀ (j : Nat) t v, Try.f7.params[j]? = some t → args[j]? = some v → Value.okWide Try.prog W .any base t v := hval0
  have hW' := hW
  obtain ⟨p, q, hA0, hV, rfl, hfz, hnd⟩ := hW
  have hA : DataW.TrodAll enc Try.prog W 0 (fun _ => true) true Try.f7.params.toList args.toList ds p := hA0
  rw [Try.params7] at hA hval
  obtain ⟨v0, vs0, d0, ds0, p0, q0, hargs, rfl, rfl, h0, r0⟩ := trodAll_cons hA
  obtain ⟨v1, vs1, d1, ds1, p1, q1, rfl, rfl, rfl, h1, r1⟩ := trodAll_cons r0
  obtain ⟨rfl, rfl, rfl⟩ := trodAll_nil r1
  obtain rfl : args = #[v0, v1] := by cases args; simp_all
  obtain ⟨rfl, rfl⟩ := trodVars_none hV
  have k0 := h0
  have lt0 : ∀ x ∈ p0, x.block < W.heap.size := by obtain ⟨m, hm⟩ := k0; exact DataW.trod_lt m _ _ _ hm
  obtain ⟨a0, rfl, rfl, rfl, w0⟩ := open_string Try.underlying9 (hval 0 9 v0 rfl rfl) h0
  have k1 := h1
  have lt1 : ∀ x ∈ p1, x.block < W.heap.size := by obtain ⟨m, hm⟩ := k1; exact DataW.trod_lt m _ _ _ hm
  obtain ⟨a1, len1, cap1, rfl⟩ := okWide_slice Try.underlying53 (hval 1 53 v1 rfl rfl)
  obtain ⟨fuel1, hf1⟩ := h1
  clear hA0 hval0
  obtain ⟨hm, ss, hlen, hsz, hat⟩ := slice_strs_at Try.underlying53 Try.underlying9 (by kernel_rfl) hf1
  refine Calls.mono (R := fun e w' => e = .returned (.bool true) ∧ Below W.heap.size W w') ?_ fun e W' ⟨he, bel⟩ => ?_
  · exact erows_any a0 a1 len1 cap1 (fun j => ss.getD j ByteArray.empty) W w0 hm hsz hat
  subst he
  exact ⟨_, rfl, _, _, _, [], _, [], hW', trodAll_mk1 (shut_bool Try.underlying4 _), (trodAll_cons_mk (Below.trod laidOut (by kernel_rfl) (of_decide_eq_true (by kernel_rfl)) k0 bel lt0) (trodAll_cons_mk (Below.trod laidOut (by kernel_rfl) (of_decide_eq_true (by kernel_rfl)) k1 bel lt1) trodAll_mk0)), rfl, bel.frame _, fun h => by cases h⟩

set_option maxRecDepth 100000 in
theorem over : Rows.edwRowsRow.holds Try.pinned (OpenSpec.ofChange Rows.edwRowsSpec) :=
  OpenClaim.holds_of_wide 7 Try.f7 rfl rfl rfl rfl rfl rfl rfl ⟨rfl, rfl, rfl, rfl, rfl⟩ rfl rfl rfl rfl rfl (by kernel_rfl) Try.func7 (by kernel_rfl)
    (of_decide_eq_true (by kernel_rfl)) (by unfold Func.isWrapper; first | (rw [if_pos (by decide +kernel)]; kernel_rfl) | (rw [if_neg (by decide +kernel)]; exact ⟨rfl, rfl⟩))
    (fun os started H enc _ => lifted os started H enc)
end edwRows
set_option maxRecDepth 100000 in
/-- The given statement. -/
theorem edwRows_proved : Rows.EdwRowsSaid := edwRows.over
#print axioms edwRows_proved

end Go.Proofs.Ytceljjnohjnepaa
