/- The law EdwReckons: for every input it returns true and leaves its arguments as they were. -/
import Derived.Test.YtceljjnohjnepaaM18
import Derived.Test.YtceljjnohjnepaaM01
namespace Go.Proofs.Ytceljjnohjnepaa
open Go Go.RowKit DG EG
attribute [local go_sem ↓] exl_Elem exs_Elem exl_Pt exs_Pt exb_Pt exl_Sc exs_Sc exl_RPt exs_RPt exb_RPt
                       attribute [local go_sem] ldr_Pt str_Pt to_quad0 pt_zero bld_pt bld_pt0 ldr_Sc str_Sc ldr_RPt str_RPt to_nine0 rpt_zero bld_rpt bld_rpt0

set_option maxRecDepth 100000 in
set_option maxHeartbeats 4000000 in
theorem ereckons_bad (s t u v : ByteArray) (x y z a x' y' z' a' m n : Nat) (i i' : Bool) (c1 c2 c3 c4 : Int) (W : World) (h1 : decV s = .tuple #[.agg (pt x y z a i), .int .i64 c1]) (h2 : decV t = .tuple #[.agg (pt x' y' z' a' i'), .int .i64 c2])
    (h3 : oN u = m) (h4 : oC u = c3) (h5 : oN v = n) (h6 : oC v = c4) (hs : s.size ≤ 9223372036854775807) (ht : t.size ≤ 9223372036854775807) (hu : u.size ≤ 9223372036854775807) (hv : v.size ≤ 9223372036854775807)
    (hc : ((c1 != 0) || ((c2 != 0) || ((c3 != 0) || (c4 != 0)))) = true) : Calls Try.prog 8 #[.string s, .string t, .string u, .string v] W fun e w' => e = .returned (.bool true) ∧ Below W.heap.size W w' := by
  have D1 := hid (fun w => h1 ▸ pdecode_v s w hs)
  have D2 := hid (fun w => h2 ▸ pdecode_v t w ht)
  have O1 := hid (fun w => h3 ▸ h4 ▸ sof_v u w hu)
  have O2 := hid (fun w => h5 ▸ h6 ▸ sof_v v w hv)
  have L1 := hid (fun w => alive_any w)
  clear h1 h2 h3 h4 h5 h6 hs ht hu hv
  obtain ⟨t1, e1⟩ : ∃ t1, (c1 != 0) = t1 := ⟨_, rfl⟩
  obtain ⟨t2, e2⟩ : ∃ t1, (c2 != 0) = t1 := ⟨_, rfl⟩
  obtain ⟨t3, e3⟩ : ∃ t1, (c3 != 0) = t1 := ⟨_, rfl⟩
  obtain ⟨t4, e4⟩ : ∃ t1, (c4 != 0) = t1 := ⟨_, rfl⟩
  rw [e1, e2, e3, e4] at hc
  go_enter Try.func8, Try.ntmps8
  go_wp2_with fail
  refine (D1.out _).mono ?_
  rintro e w1 ⟨rfl, hb1⟩
  have b1 := hid hb1
  clear hb1
  go_upto_region 2 with (fail)
  skip
  obtain ⟨A, hA⟩ : ∃ b, w1.heap.size = b := ⟨_, rfl⟩
  have wA : W.heap.size ≤ A := by rw [← hA]; exact b1.out.size
  obtain ⟨w2, hw2⟩ : ∃ w2, w1.alloc (.cells (pt x y z a i) 42) = w2 := ⟨_, rfl⟩
  have kA := kept (show hget w2 (w1.heap.size) = some (.cells (pt x y z a i) 42) by rw [← hw2]; clear hw2; go_simp)
  have b2 : Hid (Below W.heap.size W w2) := by rw [← hw2]; repeat (first | exact Below.refl _ _ | exact below_new _ | exact b1.out | assumption | refine Below.drew ?_ | refine Below.drewN ?_ _ | refine below_alloc ?_ _ | refine below_blk' ?_ (by omega) _)
  rw [hw2]
  clear hw2
  try clear gA lA nA mA
  try clear jA
  have jA := kA.later
  obtain ⟨gA, lA, nA, mA⟩ := kA
  clear b1
  rw [hA] at *
  clear hA
  go_wp2_with fail
  try clear jA
  refine (D2.out _).mono ?_
  rintro e w3 ⟨rfl, hb3⟩
  have kA := Kept.on (kept (b := A) (o := .cells (pt x y z a i) 42 (0, 0)) (by go_simp)) hb3
  have b3 : Hid (Below W.heap.size W w3) := below_to (by repeat (first | exact Below.refl _ _ | exact below_new _ | exact b2.out | assumption | refine Below.drew ?_ | refine Below.drewN ?_ _ | refine below_alloc ?_ _ | refine below_blk' ?_ (by omega) _)) hb3
  clear hb3
  try clear gA lA nA mA
  obtain ⟨gA, lA, nA, mA⟩ := kA
  clear b2
  go_upto_region 3 with (fail)
  obtain ⟨B, hB⟩ : ∃ b, w3.heap.size = b := ⟨_, rfl⟩
  have wB : W.heap.size ≤ B := by rw [← hB]; exact b3.out.size
  have eAB : (A = B) = False := by rw [← hB]; exact nA
  have eBA : (B = A) = False := by rw [← hB]; exact mA
  obtain ⟨w4, hw4⟩ : ∃ w4, w3.alloc (.cells (pt x' y' z' a' i') 42) = w4 := ⟨_, rfl⟩
  have kA := kept (show hget w4 (A) = some (.cells (pt x y z a i) 42 (0, 0)) by rw [← hw4]; clear hw4; go_simp)
  have kB := kept (show hget w4 (w3.heap.size) = some (.cells (pt x' y' z' a' i') 42) by rw [← hw4]; clear hw4; go_simp)
  have b4 : Hid (Below W.heap.size W w4) := by rw [← hw4]; repeat (first | exact Below.refl _ _ | exact below_new _ | exact b3.out | assumption | refine Below.drew ?_ | refine Below.drewN ?_ _ | refine below_alloc ?_ _ | refine below_blk' ?_ (by omega) _)
  rw [hw4]
  clear hw4
  try clear gA lA nA mA
  try clear jA
  have jA := kA.later
  obtain ⟨gA, lA, nA, mA⟩ := kA
  try clear gB lB nB mB
  try clear jB
  have jB := kB.later
  obtain ⟨gB, lB, nB, mB⟩ := kB
  clear b3
  rw [hB] at *
  clear hB
  go_wp2_with fail
  try clear jA jB
  refine (O1.out _).mono ?_
  rintro e w5 ⟨rfl, hb5⟩
  have kA := Kept.on (kept (b := A) (o := .cells (pt x y z a i) 42 (0, 0)) (by go_simp)) hb5
  have kB := Kept.on (kept (b := B) (o := .cells (pt x' y' z' a' i') 42 (0, 0)) (by go_simp)) hb5
  have b5 : Hid (Below W.heap.size W w5) := below_to (by repeat (first | exact Below.refl _ _ | exact below_new _ | exact b4.out | assumption | refine Below.drew ?_ | refine Below.drewN ?_ _ | refine below_alloc ?_ _ | refine below_blk' ?_ (by omega) _)) hb5
  clear hb5
  try clear gA lA nA mA
  obtain ⟨gA, lA, nA, mA⟩ := kA
  try clear gB lB nB mB
  obtain ⟨gB, lB, nB, mB⟩ := kB
  clear b4
  go_upto_region 4 with (fail)
  obtain ⟨C, hC⟩ : ∃ b, w5.heap.size = b := ⟨_, rfl⟩
  have wC : W.heap.size ≤ C := by rw [← hC]; exact b5.out.size
  have eAC : (A = C) = False := by rw [← hC]; exact nA
  have eCA : (C = A) = False := by rw [← hC]; exact mA
  have eBC : (B = C) = False := by rw [← hC]; exact nB
  have eCB : (C = B) = False := by rw [← hC]; exact mB
  obtain ⟨w6, hw6⟩ : ∃ w6, w5.alloc (.cells (quad m) 59) = w6 := ⟨_, rfl⟩
  have kA := kept (show hget w6 (A) = some (.cells (pt x y z a i) 42 (0, 0)) by rw [← hw6]; clear hw6; go_simp)
  have kB := kept (show hget w6 (B) = some (.cells (pt x' y' z' a' i') 42 (0, 0)) by rw [← hw6]; clear hw6; go_simp)
  have kC := kept (show hget w6 (w5.heap.size) = some (.cells (quad m) 59) by rw [← hw6]; clear hw6; go_simp)
  have b6 : Hid (Below W.heap.size W w6) := by rw [← hw6]; repeat (first | exact Below.refl _ _ | exact below_new _ | exact b5.out | assumption | refine Below.drew ?_ | refine Below.drewN ?_ _ | refine below_alloc ?_ _ | refine below_blk' ?_ (by omega) _)
  rw [hw6]
  clear hw6
  try clear gA lA nA mA
  try clear jA
  have jA := kA.later
  obtain ⟨gA, lA, nA, mA⟩ := kA
  try clear gB lB nB mB
  try clear jB
  have jB := kB.later
  obtain ⟨gB, lB, nB, mB⟩ := kB
  try clear gC lC nC mC
  try clear jC
  have jC := kC.later
  obtain ⟨gC, lC, nC, mC⟩ := kC
  clear b5
  rw [hC] at *
  clear hC
  go_wp2_with fail
  try clear jA jB jC
  refine (O2.out _).mono ?_
  rintro e w7 ⟨rfl, hb7⟩
  have kA := Kept.on (kept (b := A) (o := .cells (pt x y z a i) 42 (0, 0)) (by go_simp)) hb7
  have kB := Kept.on (kept (b := B) (o := .cells (pt x' y' z' a' i') 42 (0, 0)) (by go_simp)) hb7
  have kC := Kept.on (kept (b := C) (o := .cells (quad m) 59 (0, 0)) (by go_simp)) hb7
  have b7 : Hid (Below W.heap.size W w7) := below_to (by repeat (first | exact Below.refl _ _ | exact below_new _ | exact b6.out | assumption | refine Below.drew ?_ | refine Below.drewN ?_ _ | refine below_alloc ?_ _ | refine below_blk' ?_ (by omega) _)) hb7
  clear hb7
  try clear gA lA nA mA
  obtain ⟨gA, lA, nA, mA⟩ := kA
  try clear gB lB nB mB
  obtain ⟨gB, lB, nB, mB⟩ := kB
  try clear gC lC nC mC
  obtain ⟨gC, lC, nC, mC⟩ := kC
  clear b6
  go_upto_region 5 with (fail)
  obtain ⟨D, hD⟩ : ∃ b, w7.heap.size = b := ⟨_, rfl⟩
  have wD : W.heap.size ≤ D := by rw [← hD]; exact b7.out.size
  have eAD : (A = D) = False := by rw [← hD]; exact nA
  have eDA : (D = A) = False := by rw [← hD]; exact mA
  have eBD : (B = D) = False := by rw [← hD]; exact nB
  have eDB : (D = B) = False := by rw [← hD]; exact mB
  have eCD : (C = D) = False := by rw [← hD]; exact nC
  have eDC : (D = C) = False := by rw [← hD]; exact mC
  obtain ⟨w8, hw8⟩ : ∃ w8, w7.alloc (.cells (quad n) 59) = w8 := ⟨_, rfl⟩
  have kA := kept (show hget w8 (A) = some (.cells (pt x y z a i) 42 (0, 0)) by rw [← hw8]; clear hw8; go_simp)
  have kB := kept (show hget w8 (B) = some (.cells (pt x' y' z' a' i') 42 (0, 0)) by rw [← hw8]; clear hw8; go_simp)
  have kC := kept (show hget w8 (C) = some (.cells (quad m) 59 (0, 0)) by rw [← hw8]; clear hw8; go_simp)
  have kD := kept (show hget w8 (w7.heap.size) = some (.cells (quad n) 59) by rw [← hw8]; clear hw8; go_simp)
  have b8 : Hid (Below W.heap.size W w8) := by rw [← hw8]; repeat (first | exact Below.refl _ _ | exact below_new _ | exact b7.out | assumption | refine Below.drew ?_ | refine Below.drewN ?_ _ | refine below_alloc ?_ _ | refine below_blk' ?_ (by omega) _)
  rw [hw8]
  clear hw8
  try clear gA lA nA mA
  try clear jA
  have jA := kA.later
  obtain ⟨gA, lA, nA, mA⟩ := kA
  try clear gB lB nB mB
  try clear jB
  have jB := kB.later
  obtain ⟨gB, lB, nB, mB⟩ := kB
  try clear gC lC nC mC
  try clear jC
  have jC := kC.later
  obtain ⟨gC, lC, nC, mC⟩ := kC
  try clear gD lD nD mD
  try clear jD
  have jD := kD.later
  obtain ⟨gD, lD, nD, mD⟩ := kD
  clear b7
  rw [hD] at *
  clear hD
  skip
  cases t1
  · cases t2
    · cases t3
      · have ht4 : t4 = true := by simpa using hc
        subst ht4
        skip
        go_wp2_with fail
        try clear jA jB jC jD
        refine (L1.out _).mono ?_
        rintro e w9 ⟨rfl, hb9⟩
        have kA := Kept.on (kept (b := A) (o := .cells (pt x y z a i) 42 (0, 0)) (by go_simp)) hb9
        have kB := Kept.on (kept (b := B) (o := .cells (pt x' y' z' a' i') 42 (0, 0)) (by go_simp)) hb9
        have kC := Kept.on (kept (b := C) (o := .cells (quad m) 59 (0, 0)) (by go_simp)) hb9
        have kD := Kept.on (kept (b := D) (o := .cells (quad n) 59 (0, 0)) (by go_simp)) hb9
        have b9 : Hid (Below W.heap.size W w9) := below_to (by repeat (first | exact Below.refl _ _ | exact below_new _ | exact b8.out | assumption | refine Below.drew ?_ | refine Below.drewN ?_ _ | refine below_alloc ?_ _ | refine below_blk' ?_ (by omega) _)) hb9
        clear hb9
        try clear gA lA nA mA
        obtain ⟨gA, lA, nA, mA⟩ := kA
        try clear gB lB nB mB
        obtain ⟨gB, lB, nB, mB⟩ := kB
        try clear gC lC nC mC
        obtain ⟨gC, lC, nC, mC⟩ := kC
        try clear gD lD nD mD
        obtain ⟨gD, lD, nD, mD⟩ := kD
        clear b8
        go_wp2_with fail
        go_ret
        exact ⟨rfl, b9.out⟩
      · skip
        go_wp2_with fail
        try clear jA jB jC jD
        refine (L1.out _).mono ?_
        rintro e w9 ⟨rfl, hb9⟩
        have kA := Kept.on (kept (b := A) (o := .cells (pt x y z a i) 42 (0, 0)) (by go_simp)) hb9
        have kB := Kept.on (kept (b := B) (o := .cells (pt x' y' z' a' i') 42 (0, 0)) (by go_simp)) hb9
        have kC := Kept.on (kept (b := C) (o := .cells (quad m) 59 (0, 0)) (by go_simp)) hb9
        have kD := Kept.on (kept (b := D) (o := .cells (quad n) 59 (0, 0)) (by go_simp)) hb9
        have b9 : Hid (Below W.heap.size W w9) := below_to (by repeat (first | exact Below.refl _ _ | exact below_new _ | exact b8.out | assumption | refine Below.drew ?_ | refine Below.drewN ?_ _ | refine below_alloc ?_ _ | refine below_blk' ?_ (by omega) _)) hb9
        clear hb9
        try clear gA lA nA mA
        obtain ⟨gA, lA, nA, mA⟩ := kA
        try clear gB lB nB mB
        obtain ⟨gB, lB, nB, mB⟩ := kB
        try clear gC lC nC mC
        obtain ⟨gC, lC, nC, mC⟩ := kC
        try clear gD lD nD mD
        obtain ⟨gD, lD, nD, mD⟩ := kD
        clear b8
        go_wp2_with fail
        go_ret
        exact ⟨rfl, b9.out⟩
    · skip
      go_wp2_with fail
      try clear jA jB jC jD
      refine (L1.out _).mono ?_
      rintro e w9 ⟨rfl, hb9⟩
      have kA := Kept.on (kept (b := A) (o := .cells (pt x y z a i) 42 (0, 0)) (by go_simp)) hb9
      have kB := Kept.on (kept (b := B) (o := .cells (pt x' y' z' a' i') 42 (0, 0)) (by go_simp)) hb9
      have kC := Kept.on (kept (b := C) (o := .cells (quad m) 59 (0, 0)) (by go_simp)) hb9
      have kD := Kept.on (kept (b := D) (o := .cells (quad n) 59 (0, 0)) (by go_simp)) hb9
      have b9 : Hid (Below W.heap.size W w9) := below_to (by repeat (first | exact Below.refl _ _ | exact below_new _ | exact b8.out | assumption | refine Below.drew ?_ | refine Below.drewN ?_ _ | refine below_alloc ?_ _ | refine below_blk' ?_ (by omega) _)) hb9
      clear hb9
      try clear gA lA nA mA
      obtain ⟨gA, lA, nA, mA⟩ := kA
      try clear gB lB nB mB
      obtain ⟨gB, lB, nB, mB⟩ := kB
      try clear gC lC nC mC
      obtain ⟨gC, lC, nC, mC⟩ := kC
      try clear gD lD nD mD
      obtain ⟨gD, lD, nD, mD⟩ := kD
      clear b8
      go_wp2_with fail
      go_ret
      exact ⟨rfl, b9.out⟩
  · skip
    go_wp2_with fail
    try clear jA jB jC jD
    refine (L1.out _).mono ?_
    rintro e w9 ⟨rfl, hb9⟩
    have kA := Kept.on (kept (b := A) (o := .cells (pt x y z a i) 42 (0, 0)) (by go_simp)) hb9
    have kB := Kept.on (kept (b := B) (o := .cells (pt x' y' z' a' i') 42 (0, 0)) (by go_simp)) hb9
    have kC := Kept.on (kept (b := C) (o := .cells (quad m) 59 (0, 0)) (by go_simp)) hb9
    have kD := Kept.on (kept (b := D) (o := .cells (quad n) 59 (0, 0)) (by go_simp)) hb9
    have b9 : Hid (Below W.heap.size W w9) := below_to (by repeat (first | exact Below.refl _ _ | exact below_new _ | exact b8.out | assumption | refine Below.drew ?_ | refine Below.drewN ?_ _ | refine below_alloc ?_ _ | refine below_blk' ?_ (by omega) _)) hb9
    clear hb9
    try clear gA lA nA mA
    obtain ⟨gA, lA, nA, mA⟩ := kA
    try clear gB lB nB mB
    obtain ⟨gB, lB, nB, mB⟩ := kB
    try clear gC lC nC mC
    obtain ⟨gC, lC, nC, mC⟩ := kC
    try clear gD lD nD mD
    obtain ⟨gD, lD, nD, mD⟩ := kD
    clear b8
    go_wp2_with fail
    go_ret
    exact ⟨rfl, b9.out⟩

set_option maxRecDepth 100000 in
set_option maxHeartbeats 4000000 in
theorem ereckons_ok (s t u v : ByteArray) (p q P S T : P4) (x y X Y Z : R3) (mm nn : Array Value) (m n : Nat) (sm : Bool) (W : World) (h1 : decV s = .tuple #[pv p, .int .i64 0]) (h2 : decV t = .tuple #[pv q, .int .i64 0]) (hr1 : rdecV s = .tuple #[rv x, .int .i64 0]) (hr2 : rdecV t = .tuple #[rv y, .int .i64 0])
    (h3 : oN u = m) (h4 : oC u = 0) (h5 : oN v = n) (h6 : oC v = 0) (hs : s.size ≤ 9223372036854775807) (ht : t.size ≤ 9223372036854775807) (hu : 8 * u.size ≤ 9223372036854775807) (hv : 8 * v.size ≤ 9223372036854775807)
    (hmm : ints .u8 (digs 256 m 32) = mm) (hnn : ints .u8 (digs 256 n 32) = nn)
    (hR1 : ∀ w, Calls Try.prog 33 #[.string u] w fun e w' => e = .returned (.agg (ints .u8 (digs 256 m 32))) ∧ Below w.heap.size w w') (hR2 : ∀ w, Calls Try.prog 33 #[.string v] w fun e w' => e = .returned (.agg (ints .u8 (digs 256 n 32))) ∧ Below w.heap.size w w')
    (hp : p.bd) (hq : q.bd) (hx : x.bd) (hy : y.bd) (hm : m < p2) (hn : n < p2)
    (a1 : p.add q = P) (a2 : x.add y = X) (a3 : p.twice = S) (a4 : x.add x = Y) (a5 : P4.both (dP bsB) p m n = T) (a6 : (x.times m).add ((rP bsB).times n) = Z)
    (i1 : ∀ w, Calls Try.prog 25 #[pv P, rv X] w fun r w' => r = .returned (.bool true) ∧ Below w.heap.size w w') (i2 : ∀ w, Calls Try.prog 25 #[pv S, rv Y] w fun r w' => r = .returned (.bool true) ∧ Below w.heap.size w w') (i3 : ∀ w, Calls Try.prog 25 #[pv T, rv Z] w fun r w' => r = .returned (.bool true) ∧ Below w.heap.size w w')
    (e1 : p.same q = sm) (e2 : x.same y = sm) : Calls Try.prog 8 #[.string s, .string t, .string u, .string v] W fun e w' => e = .returned (.bool true) ∧ Below W.heap.size W w' := by
  have D1 := hid (fun w => h1 ▸ pdecode_v s w hs)
  have D2 := hid (fun w => h2 ▸ pdecode_v t w ht)
  have R1 := hid (fun w => hr1 ▸ rdecode_v s w hs)
  have R2 := hid (fun w => hr2 ▸ rdecode_v t w ht)
  have O1 := hid (fun w => h3 ▸ h4 ▸ sof_v u w (by omega))
  have O2 := hid (fun w => h5 ▸ h6 ▸ sof_v v w (by omega))
  have L1 := hid (fun w => alive_any w)
  have Q1 := hid (fun w => hmm ▸ hR1 w)
  have Q2 := hid (fun w => hnn ▸ hR2 w)
  have B1 := hid (fun w => a1 ▸ padd_v p q w hp hq)
  have B2 := hid (fun w => a2 ▸ radd_pt x y w hx hy)
  have B3 := hid (fun w => a3 ▸ ptwice_v p w hp)
  have B4 := hid (fun w => a4 ▸ radd_pt x x w hx hx)
  have B5 := hid (fun w => a5 ▸ pboth_v p m n w hp hm hn)
  have B6 := hid (fun w => hmm ▸ hnn ▸ a6 ▸ rboth_v x m n w hx hm hn)
  have I1 := hid i1
  have I2 := hid i2
  have I3 := hid i3
  have E1 := hid (fun w => e1 ▸ psame_v p q w hp hq)
  have E2 := hid (fun w => e2 ▸ rsame_v x y w hx hy)
  clear h1 h2 hr1 hr2 h3 h4 h5 h6 hs ht hu hv hmm hnn hR1 hR2 hp hq hx hy hm hn a1 a2 a3 a4 a5 a6 i1 i2 i3 e1 e2
  go_enter Try.func8, Try.ntmps8
  go_wp2_with fail
  refine (D1.out _).mono ?_
  rintro e w1 ⟨rfl, hb1⟩
  have b1 := hid hb1
  clear hb1
  go_upto_region 2 with (fail)
  skip
  obtain ⟨A, hA⟩ : ∃ b, w1.heap.size = b := ⟨_, rfl⟩
  have wA : W.heap.size ≤ A := by rw [← hA]; exact b1.out.size
  obtain ⟨w2, hw2⟩ : ∃ w2, w1.alloc (.cells (pt p.x p.y p.z p.t true) 42) = w2 := ⟨_, rfl⟩
  have kA := kept (show hget w2 (w1.heap.size) = some (.cells (pt p.x p.y p.z p.t true) 42) by rw [← hw2]; clear hw2; go_simp)
  have b2 : Hid (Below W.heap.size W w2) := by rw [← hw2]; repeat (first | exact Below.refl _ _ | exact below_new _ | exact b1.out | assumption | refine Below.drew ?_ | refine Below.drewN ?_ _ | refine below_alloc ?_ _ | refine below_blk' ?_ (by omega) _)
  rw [hw2]
  clear hw2
  try clear gA lA nA mA
  try clear jA
  have jA := kA.later
  obtain ⟨gA, lA, nA, mA⟩ := kA
  clear b1
  rw [hA] at *
  clear hA
  go_wp2_with fail
  try clear jA
  refine (D2.out _).mono ?_
  rintro e w3 ⟨rfl, hb3⟩
  have kA := Kept.on (kept (b := A) (o := .cells (pt p.x p.y p.z p.t true) 42 (0, 0)) (by go_simp)) hb3
  have b3 : Hid (Below W.heap.size W w3) := below_to (by repeat (first | exact Below.refl _ _ | exact below_new _ | exact b2.out | assumption | refine Below.drew ?_ | refine Below.drewN ?_ _ | refine below_alloc ?_ _ | refine below_blk' ?_ (by omega) _)) hb3
  clear hb3
  try clear gA lA nA mA
  obtain ⟨gA, lA, nA, mA⟩ := kA
  clear b2
  go_upto_region 3 with (fail)
  obtain ⟨B, hB⟩ : ∃ b, w3.heap.size = b := ⟨_, rfl⟩
  have wB : W.heap.size ≤ B := by rw [← hB]; exact b3.out.size
  have eAB : (A = B) = False := by rw [← hB]; exact nA
  have eBA : (B = A) = False := by rw [← hB]; exact mA
  obtain ⟨w4, hw4⟩ : ∃ w4, w3.alloc (.cells (pt q.x q.y q.z q.t true) 42) = w4 := ⟨_, rfl⟩
  have kA := kept (show hget w4 (A) = some (.cells (pt p.x p.y p.z p.t true) 42 (0, 0)) by rw [← hw4]; clear hw4; go_simp)
  have kB := kept (show hget w4 (w3.heap.size) = some (.cells (pt q.x q.y q.z q.t true) 42) by rw [← hw4]; clear hw4; go_simp)
  have b4 : Hid (Below W.heap.size W w4) := by rw [← hw4]; repeat (first | exact Below.refl _ _ | exact below_new _ | exact b3.out | assumption | refine Below.drew ?_ | refine Below.drewN ?_ _ | refine below_alloc ?_ _ | refine below_blk' ?_ (by omega) _)
  rw [hw4]
  clear hw4
  try clear gA lA nA mA
  try clear jA
  have jA := kA.later
  obtain ⟨gA, lA, nA, mA⟩ := kA
  try clear gB lB nB mB
  try clear jB
  have jB := kB.later
  obtain ⟨gB, lB, nB, mB⟩ := kB
  clear b3
  rw [hB] at *
  clear hB
  go_wp2_with fail
  try clear jA jB
  refine (O1.out _).mono ?_
  rintro e w5 ⟨rfl, hb5⟩
  have kA := Kept.on (kept (b := A) (o := .cells (pt p.x p.y p.z p.t true) 42 (0, 0)) (by go_simp)) hb5
  have kB := Kept.on (kept (b := B) (o := .cells (pt q.x q.y q.z q.t true) 42 (0, 0)) (by go_simp)) hb5
  have b5 : Hid (Below W.heap.size W w5) := below_to (by repeat (first | exact Below.refl _ _ | exact below_new _ | exact b4.out | assumption | refine Below.drew ?_ | refine Below.drewN ?_ _ | refine below_alloc ?_ _ | refine below_blk' ?_ (by omega) _)) hb5
  clear hb5
  try clear gA lA nA mA
  obtain ⟨gA, lA, nA, mA⟩ := kA
  try clear gB lB nB mB
  obtain ⟨gB, lB, nB, mB⟩ := kB
  clear b4
  go_upto_region 4 with (fail)
  obtain ⟨C, hC⟩ : ∃ b, w5.heap.size = b := ⟨_, rfl⟩
  have wC : W.heap.size ≤ C := by rw [← hC]; exact b5.out.size
  have eAC : (A = C) = False := by rw [← hC]; exact nA
  have eCA : (C = A) = False := by rw [← hC]; exact mA
  have eBC : (B = C) = False := by rw [← hC]; exact nB
  have eCB : (C = B) = False := by rw [← hC]; exact mB
  obtain ⟨w6, hw6⟩ : ∃ w6, w5.alloc (.cells (quad m) 59) = w6 := ⟨_, rfl⟩
  have kA := kept (show hget w6 (A) = some (.cells (pt p.x p.y p.z p.t true) 42 (0, 0)) by rw [← hw6]; clear hw6; go_simp)
  have kB := kept (show hget w6 (B) = some (.cells (pt q.x q.y q.z q.t true) 42 (0, 0)) by rw [← hw6]; clear hw6; go_simp)
  have kC := kept (show hget w6 (w5.heap.size) = some (.cells (quad m) 59) by rw [← hw6]; clear hw6; go_simp)
  have b6 : Hid (Below W.heap.size W w6) := by rw [← hw6]; repeat (first | exact Below.refl _ _ | exact below_new _ | exact b5.out | assumption | refine Below.drew ?_ | refine Below.drewN ?_ _ | refine below_alloc ?_ _ | refine below_blk' ?_ (by omega) _)
  rw [hw6]
  clear hw6
  try clear gA lA nA mA
  try clear jA
  have jA := kA.later
  obtain ⟨gA, lA, nA, mA⟩ := kA
  try clear gB lB nB mB
  try clear jB
  have jB := kB.later
  obtain ⟨gB, lB, nB, mB⟩ := kB
  try clear gC lC nC mC
  try clear jC
  have jC := kC.later
  obtain ⟨gC, lC, nC, mC⟩ := kC
  clear b5
  rw [hC] at *
  clear hC
  go_wp2_with fail
  try clear jA jB jC
  refine (O2.out _).mono ?_
  rintro e w7 ⟨rfl, hb7⟩
  have kA := Kept.on (kept (b := A) (o := .cells (pt p.x p.y p.z p.t true) 42 (0, 0)) (by go_simp)) hb7
  have kB := Kept.on (kept (b := B) (o := .cells (pt q.x q.y q.z q.t true) 42 (0, 0)) (by go_simp)) hb7
  have kC := Kept.on (kept (b := C) (o := .cells (quad m) 59 (0, 0)) (by go_simp)) hb7
  have b7 : Hid (Below W.heap.size W w7) := below_to (by repeat (first | exact Below.refl _ _ | exact below_new _ | exact b6.out | assumption | refine Below.drew ?_ | refine Below.drewN ?_ _ | refine below_alloc ?_ _ | refine below_blk' ?_ (by omega) _)) hb7
  clear hb7
  try clear gA lA nA mA
  obtain ⟨gA, lA, nA, mA⟩ := kA
  try clear gB lB nB mB
  obtain ⟨gB, lB, nB, mB⟩ := kB
  try clear gC lC nC mC
  obtain ⟨gC, lC, nC, mC⟩ := kC
  clear b6
  go_upto_region 5 with (fail)
  obtain ⟨D, hD⟩ : ∃ b, w7.heap.size = b := ⟨_, rfl⟩
  have wD : W.heap.size ≤ D := by rw [← hD]; exact b7.out.size
  have eAD : (A = D) = False := by rw [← hD]; exact nA
  have eDA : (D = A) = False := by rw [← hD]; exact mA
  have eBD : (B = D) = False := by rw [← hD]; exact nB
  have eDB : (D = B) = False := by rw [← hD]; exact mB
  have eCD : (C = D) = False := by rw [← hD]; exact nC
  have eDC : (D = C) = False := by rw [← hD]; exact mC
  obtain ⟨w8, hw8⟩ : ∃ w8, w7.alloc (.cells (quad n) 59) = w8 := ⟨_, rfl⟩
  have kA := kept (show hget w8 (A) = some (.cells (pt p.x p.y p.z p.t true) 42 (0, 0)) by rw [← hw8]; clear hw8; go_simp)
  have kB := kept (show hget w8 (B) = some (.cells (pt q.x q.y q.z q.t true) 42 (0, 0)) by rw [← hw8]; clear hw8; go_simp)
  have kC := kept (show hget w8 (C) = some (.cells (quad m) 59 (0, 0)) by rw [← hw8]; clear hw8; go_simp)
  have kD := kept (show hget w8 (w7.heap.size) = some (.cells (quad n) 59) by rw [← hw8]; clear hw8; go_simp)
  have b8 : Hid (Below W.heap.size W w8) := by rw [← hw8]; repeat (first | exact Below.refl _ _ | exact below_new _ | exact b7.out | assumption | refine Below.drew ?_ | refine Below.drewN ?_ _ | refine below_alloc ?_ _ | refine below_blk' ?_ (by omega) _)
  rw [hw8]
  clear hw8
  try clear gA lA nA mA
  try clear jA
  have jA := kA.later
  obtain ⟨gA, lA, nA, mA⟩ := kA
  try clear gB lB nB mB
  try clear jB
  have jB := kB.later
  obtain ⟨gB, lB, nB, mB⟩ := kB
  try clear gC lC nC mC
  try clear jC
  have jC := kC.later
  obtain ⟨gC, lC, nC, mC⟩ := kC
  try clear gD lD nD mD
  try clear jD
  have jD := kD.later
  obtain ⟨gD, lD, nD, mD⟩ := kD
  clear b7
  rw [hD] at *
  clear hD
  skip
  go_wp2_with fail
  try clear jA jB jC jD
  refine (R1.out _).mono ?_
  rintro e w9 ⟨rfl, hb9⟩
  have kA := Kept.on (kept (b := A) (o := .cells (pt p.x p.y p.z p.t true) 42 (0, 0)) (by go_simp)) hb9
  have kB := Kept.on (kept (b := B) (o := .cells (pt q.x q.y q.z q.t true) 42 (0, 0)) (by go_simp)) hb9
  have kC := Kept.on (kept (b := C) (o := .cells (quad m) 59 (0, 0)) (by go_simp)) hb9
  have kD := Kept.on (kept (b := D) (o := .cells (quad n) 59 (0, 0)) (by go_simp)) hb9
  have b9 : Hid (Below W.heap.size W w9) := below_to (by repeat (first | exact Below.refl _ _ | exact below_new _ | exact b8.out | assumption | refine Below.drew ?_ | refine Below.drewN ?_ _ | refine below_alloc ?_ _ | refine below_blk' ?_ (by omega) _)) hb9
  clear hb9
  try clear gA lA nA mA
  obtain ⟨gA, lA, nA, mA⟩ := kA
  try clear gB lB nB mB
  obtain ⟨gB, lB, nB, mB⟩ := kB
  try clear gC lC nC mC
  obtain ⟨gC, lC, nC, mC⟩ := kC
  try clear gD lD nD mD
  obtain ⟨gD, lD, nD, mD⟩ := kD
  clear b8
  go_upto_region 8 with (fail)
  obtain ⟨X, hX⟩ : ∃ b, w9.heap.size = b := ⟨_, rfl⟩
  have wX : W.heap.size ≤ X := by rw [← hX]; exact b9.out.size
  have eAX : (A = X) = False := by rw [← hX]; exact nA
  have eXA : (X = A) = False := by rw [← hX]; exact mA
  have eBX : (B = X) = False := by rw [← hX]; exact nB
  have eXB : (X = B) = False := by rw [← hX]; exact mB
  have eCX : (C = X) = False := by rw [← hX]; exact nC
  have eXC : (X = C) = False := by rw [← hX]; exact mC
  have eDX : (D = X) = False := by rw [← hX]; exact nD
  have eXD : (X = D) = False := by rw [← hX]; exact mD
  obtain ⟨w10, hw10⟩ : ∃ w10, w9.alloc (.cells (rpt x.x x.y x.z) 46) = w10 := ⟨_, rfl⟩
  have kA := kept (show hget w10 (A) = some (.cells (pt p.x p.y p.z p.t true) 42 (0, 0)) by rw [← hw10]; clear hw10; go_simp)
  have kB := kept (show hget w10 (B) = some (.cells (pt q.x q.y q.z q.t true) 42 (0, 0)) by rw [← hw10]; clear hw10; go_simp)
  have kC := kept (show hget w10 (C) = some (.cells (quad m) 59 (0, 0)) by rw [← hw10]; clear hw10; go_simp)
  have kD := kept (show hget w10 (D) = some (.cells (quad n) 59 (0, 0)) by rw [← hw10]; clear hw10; go_simp)
  have kX := kept (show hget w10 (w9.heap.size) = some (.cells (rpt x.x x.y x.z) 46) by rw [← hw10]; clear hw10; go_simp)
  have b10 : Hid (Below W.heap.size W w10) := by rw [← hw10]; repeat (first | exact Below.refl _ _ | exact below_new _ | exact b9.out | assumption | refine Below.drew ?_ | refine Below.drewN ?_ _ | refine below_alloc ?_ _ | refine below_blk' ?_ (by omega) _)
  rw [hw10]
  clear hw10
  try clear gA lA nA mA
  try clear jA
  have jA := kA.later
  obtain ⟨gA, lA, nA, mA⟩ := kA
  try clear gB lB nB mB
  try clear jB
  have jB := kB.later
  obtain ⟨gB, lB, nB, mB⟩ := kB
  try clear gC lC nC mC
  try clear jC
  have jC := kC.later
  obtain ⟨gC, lC, nC, mC⟩ := kC
  try clear gD lD nD mD
  try clear jD
  have jD := kD.later
  obtain ⟨gD, lD, nD, mD⟩ := kD
  try clear gX lX nX mX
  try clear jX
  have jX := kX.later
  obtain ⟨gX, lX, nX, mX⟩ := kX
  clear b9
  rw [hX] at *
  clear hX
  go_wp2_with fail
  try clear jA jB jC jD jX
  refine (R2.out _).mono ?_
  rintro e w11 ⟨rfl, hb11⟩
  have kA := Kept.on (kept (b := A) (o := .cells (pt p.x p.y p.z p.t true) 42 (0, 0)) (by go_simp)) hb11
  have kB := Kept.on (kept (b := B) (o := .cells (pt q.x q.y q.z q.t true) 42 (0, 0)) (by go_simp)) hb11
  have kC := Kept.on (kept (b := C) (o := .cells (quad m) 59 (0, 0)) (by go_simp)) hb11
  have kD := Kept.on (kept (b := D) (o := .cells (quad n) 59 (0, 0)) (by go_simp)) hb11
  have kX := Kept.on (kept (b := X) (o := .cells (rpt x.x x.y x.z) 46 (0, 0)) (by go_simp)) hb11
  have b11 : Hid (Below W.heap.size W w11) := below_to (by repeat (first | exact Below.refl _ _ | exact below_new _ | exact b10.out | assumption | refine Below.drew ?_ | refine Below.drewN ?_ _ | refine below_alloc ?_ _ | refine below_blk' ?_ (by omega) _)) hb11
  clear hb11
  try clear gA lA nA mA
  obtain ⟨gA, lA, nA, mA⟩ := kA
  try clear gB lB nB mB
  obtain ⟨gB, lB, nB, mB⟩ := kB
  try clear gC lC nC mC
  obtain ⟨gC, lC, nC, mC⟩ := kC
  try clear gD lD nD mD
  obtain ⟨gD, lD, nD, mD⟩ := kD
  try clear gX lX nX mX
  obtain ⟨gX, lX, nX, mX⟩ := kX
  clear b10
  go_upto_region 9 with (fail)
  obtain ⟨Y, hY⟩ : ∃ b, w11.heap.size = b := ⟨_, rfl⟩
  have wY : W.heap.size ≤ Y := by rw [← hY]; exact b11.out.size
  have eAY : (A = Y) = False := by rw [← hY]; exact nA
  have eYA : (Y = A) = False := by rw [← hY]; exact mA
  have eBY : (B = Y) = False := by rw [← hY]; exact nB
  have eYB : (Y = B) = False := by rw [← hY]; exact mB
  have eCY : (C = Y) = False := by rw [← hY]; exact nC
  have eYC : (Y = C) = False := by rw [← hY]; exact mC
  have eDY : (D = Y) = False := by rw [← hY]; exact nD
  have eYD : (Y = D) = False := by rw [← hY]; exact mD
  have eXY : (X = Y) = False := by rw [← hY]; exact nX
  have eYX : (Y = X) = False := by rw [← hY]; exact mX
  obtain ⟨w12, hw12⟩ : ∃ w12, w11.alloc (.cells (rpt y.x y.y y.z) 46) = w12 := ⟨_, rfl⟩
  have kA := kept (show hget w12 (A) = some (.cells (pt p.x p.y p.z p.t true) 42 (0, 0)) by rw [← hw12]; clear hw12; go_simp)
  have kB := kept (show hget w12 (B) = some (.cells (pt q.x q.y q.z q.t true) 42 (0, 0)) by rw [← hw12]; clear hw12; go_simp)
  have kC := kept (show hget w12 (C) = some (.cells (quad m) 59 (0, 0)) by rw [← hw12]; clear hw12; go_simp)
  have kD := kept (show hget w12 (D) = some (.cells (quad n) 59 (0, 0)) by rw [← hw12]; clear hw12; go_simp)
  have kX := kept (show hget w12 (X) = some (.cells (rpt x.x x.y x.z) 46 (0, 0)) by rw [← hw12]; clear hw12; go_simp)
  have kY := kept (show hget w12 (w11.heap.size) = some (.cells (rpt y.x y.y y.z) 46) by rw [← hw12]; clear hw12; go_simp)
  have b12 : Hid (Below W.heap.size W w12) := by rw [← hw12]; repeat (first | exact Below.refl _ _ | exact below_new _ | exact b11.out | assumption | refine Below.drew ?_ | refine Below.drewN ?_ _ | refine below_alloc ?_ _ | refine below_blk' ?_ (by omega) _)
  rw [hw12]
  clear hw12
  try clear gA lA nA mA
  try clear jA
  have jA := kA.later
  obtain ⟨gA, lA, nA, mA⟩ := kA
  try clear gB lB nB mB
  try clear jB
  have jB := kB.later
  obtain ⟨gB, lB, nB, mB⟩ := kB
  try clear gC lC nC mC
  try clear jC
  have jC := kC.later
  obtain ⟨gC, lC, nC, mC⟩ := kC
  try clear gD lD nD mD
  try clear jD
  have jD := kD.later
  obtain ⟨gD, lD, nD, mD⟩ := kD
  try clear gX lX nX mX
  try clear jX
  have jX := kX.later
  obtain ⟨gX, lX, nX, mX⟩ := kX
  try clear gY lY nY mY
  try clear jY
  have jY := kY.later
  obtain ⟨gY, lY, nY, mY⟩ := kY
  clear b11
  rw [hY] at *
  clear hY
  clear D1 D2 R1 R2 O1 O2
  have hsm : (sm == sm) = true := by simp
  refine wp_region_later (by kernel_rfl) (by kernel_rfl) ?_
  repeat ((go_big_quiet_step ((first | (go_at_call 27; with_reducible exact calls_later (B1.out _)) | (go_at_call 28; first | with_reducible exact calls_later (B2.out _) | with_reducible exact calls_later (B4.out _)) | (go_at_call 29; with_reducible exact calls_later (B3.out _)) | (go_at_call 31; with_reducible exact calls_later (B5.out _)) | (go_at_call 32; with_reducible exact calls_later (B6.out _)) | (go_at_call 25; first | with_reducible exact calls_later (I1.out _) | with_reducible exact calls_later (I2.out _) | with_reducible exact calls_later (I3.out _)) | (go_at_call 24; with_reducible exact calls_later (E1.out _)) | (go_at_call 34; with_reducible exact calls_later (E2.out _)) | (go_at_call 33; first | with_reducible exact calls_later (Q1.out _) | with_reducible exact calls_later (Q2.out _)) | (go_at_call 18; with_reducible exact calls_later (L1.out _))))))
  refine wpQuiet_nil ?_
  intro wL hwL
  obtain ⟨⟨w8, hL⟩, e8⟩ := hwL
  change wL = w8 at e8
  subst e8
  have bZ := hid (below_to b12.out hL)
  go_wp2_with fail
  go_ret
  exact ⟨rfl, bZ.out⟩

set_option maxRecDepth 100000 in
theorem ereckons_any (s t u v : ByteArray) (W : World) (hs : s.size ≤ 9223372036854775807) (ht : t.size ≤ 9223372036854775807) (hu : u.size ≤ 9223372036854775807) (hv : v.size ≤ 9223372036854775807) :
    Calls Try.prog 8 #[.string s, .string t, .string u, .string v] W fun e w' => e = .returned (.bool true) ∧ Below W.heap.size W w' := by
  obtain ⟨x, y, z, a, i, c1, h1, hc1⟩ := decV_form s
  obtain ⟨x', y', z', a', i', c2, h2, hc2⟩ := decV_form t
  by_cases hall : ((c1 != 0) || ((c2 != 0) || ((oC u != 0) || (oC v != 0)))) = true
  · exact ereckons_bad s t u v x y z a x' y' z' a' _ _ i i' c1 c2 _ _ W h1 h2 rfl rfl rfl rfl hs ht hu hv hall
  · have hf := Bool.eq_false_iff.2 hall
    rw [Bool.or_eq_false_iff, Bool.or_eq_false_iff, Bool.or_eq_false_iff] at hf
    have d1 := hc1.1 hf.1
    have d2 := hc2.1 hf.2.1
    have l1 := oC_of hf.2.2.1
    have l2 := oC_of hf.2.2.2
    have k1 : oC u = 0 := by unfold oC; rw [if_pos l1]
    have k2 : oC v = 0 := by unfold oC; rw [if_pos l2]
    have p1 := dP_ok d1
    have p2' := dP_ok d2
    have r1 := rP_ok d1
    have r2 := rP_ok d2
    have o1 := oN_p2 u
    have o2 := oN_p2 v
    have q1 : oN u < 2 ^ 256 := Nat.lt_of_lt_of_eq o1 (by decide)
    have q2 : oN v < 2 ^ 256 := Nat.lt_of_lt_of_eq o2 (by decide)
    have f1 : ∀ w, Calls Try.prog 33 #[.string u] w fun e w' => e = .returned (.agg (ints .u8 (digs 256 (oN u) 32))) ∧ Below w.heap.size w w' := fun w => by
      unfold oN; rw [if_pos l1]; exact oref_Of u w (by omega)
    have f2 : ∀ w, Calls Try.prog 33 #[.string v] w fun e w' => e = .returned (.agg (ints .u8 (digs 256 (oN v) 32))) ∧ Below w.heap.size w w' := fun w => by
      unfold oN; rw [if_pos l2]; exact oref_Of v w (by omega)
    have hsame : (rP s).same (rP t) = (dP s).same (dP t) := by
      rw [Bool.eq_iff_iff, R3.same_iff r1 r2, P4.same_iff p1 p2']
    exact ereckons_ok s t u v (dP s) (dP t) _ _ _ (rP s) (rP t) _ _ _ _ _ (oN u) (oN v) _ W (by unfold decV; rw [if_pos d1]) (by unfold decV; rw [if_pos d2]) (by unfold rdecV; rw [if_pos d1]) (by unfold rdecV; rw [if_pos d2])
      rfl k1 rfl k2 hs ht (by omega) (by omega) rfl rfl f1 f2 p1.bd p2'.bd r1.bd r2.bd o1 o2 rfl rfl rfl rfl rfl rfl
      (fun w => is_pt w (P4.add_ok p1 p2') (R3.add_ok r1 r2)) (fun w => is_pt w (P4.twice_ok p1) (R3.add_ok r1 r1)) (fun w => is_pt w (P4.both_ok base_ok p1 q1 q2) (R3.add_ok (R3.times_ok r1 q1) (R3.times_ok (rP_ok bsB_ok |> (bsB_pt ▸ ·)) q2))) rfl hsame

end Go.Proofs.Ytceljjnohjnepaa

namespace Go.Proofs.Ytceljjnohjnepaa
open Go.RowKit Go.Deep

namespace edwReckons
open Go.ChangeShapes Go.WideShapes Go.ChangeAt Go.RowKit
open Go.ChangeMaps (open_string shut_string)
set_option maxRecDepth 100000 in
theorem own : ownKnob Try.prog.godebug = none := by kernel_rfl
set_option maxRecDepth 100000 in
theorem laidOut : laidOutB Try.prog = true := by kernel_rfl
set_option maxRecDepth 100000 in
theorem lifted (os : Os) (started : os.Started) (H : Type) (enc : TypeId × Value → H) :
    ReturnsInHanded {} Try.checked os 8 .any (Rows.edwReckonsSpec.pre6 enc Try.prog Try.f8 Rows.edwReckonsRow.domain false) (Rows.edwReckonsSpec.post enc Try.prog Try.f8 false true false false) := by
  refine returnsInHanded_of_change (C := Try.checked) own started (by kernel_rfl) Try.func8
    (ChangeSpec.witness6 (enc := enc) (C := Try.checked) false ⟨#[], #[.string ByteArray.empty, .string ByteArray.empty, .string ByteArray.empty, .string ByteArray.empty], []⟩ 8 (by kernel_rfl) (by kernel_rfl) (by kernel_rfl) (by kernel_rfl)) ?_
  intro W base args ds gs before hval0 hW hcnd _
  have hval : ∀ (j : Nat) t v, Try.f8.params[j]? = some t → args[j]? = some v → Value.okWide Try.prog W .any base t v := hval0
  have hW' := hW
  obtain ⟨p, q, hA0, hV, rfl, hfz, hnd⟩ := hW
  have hA : DataW.TrodAll enc Try.prog W 0 (fun _ => true) true Try.f8.params.toList args.toList ds p := hA0
  rw [Try.params8] at hA hval
  obtain ⟨v0, vs0, d0, ds0, p0, q0, hargs, rfl, rfl, h0, r0⟩ := trodAll_cons hA
  obtain ⟨v1, vs1, d1, ds1, p1, q1, rfl, rfl, rfl, h1, r1⟩ := trodAll_cons r0
  obtain ⟨v2, vs2, d2, ds2, p2, q2, rfl, rfl, rfl, h2, r2⟩ := trodAll_cons r1
  obtain ⟨v3, vs3, d3, ds3, p3, q3, rfl, rfl, rfl, h3, r3⟩ := trodAll_cons r2
  obtain ⟨rfl, rfl, rfl⟩ := trodAll_nil r3
  obtain rfl : args = #[v0, v1, v2, v3] := by cases args; simp_all
  obtain ⟨rfl, rfl⟩ := trodVars_none hV
  have k0 := h0
  have lt0 : ∀ x ∈ p0, x.block < W.heap.size := by obtain ⟨m, hm⟩ := k0; exact DataW.trod_lt m _ _ _ hm
  obtain ⟨a0, rfl, rfl, rfl, w0⟩ := open_string Try.underlying9 (hval 0 9 v0 rfl rfl) h0
  have k1 := h1
  have lt1 : ∀ x ∈ p1, x.block < W.heap.size := by obtain ⟨m, hm⟩ := k1; exact DataW.trod_lt m _ _ _ hm
  obtain ⟨a1, rfl, rfl, rfl, w1⟩ := open_string Try.underlying9 (hval 1 9 v1 rfl rfl) h1
  have k2 := h2
  have lt2 : ∀ x ∈ p2, x.block < W.heap.size := by obtain ⟨m, hm⟩ := k2; exact DataW.trod_lt m _ _ _ hm
  obtain ⟨a2, rfl, rfl, rfl, w2⟩ := open_string Try.underlying9 (hval 2 9 v2 rfl rfl) h2
  have k3 := h3
  have lt3 : ∀ x ∈ p3, x.block < W.heap.size := by obtain ⟨m, hm⟩ := k3; exact DataW.trod_lt m _ _ _ hm
  obtain ⟨a3, rfl, rfl, rfl, w3⟩ := open_string Try.underlying9 (hval 3 9 v3 rfl rfl) h3
  clear hA0 hval0
  refine Calls.mono (R := fun e w' => e = .returned (.bool true) ∧ Below W.heap.size W w') ?_ fun e W' ⟨he, bel⟩ => ?_
  · exact ereckons_any a0 a1 a2 a3 W w0 w1 w2 w3
  subst he
  exact ⟨_, rfl, _, _, _, [], _, [], hW', trodAll_mk1 (shut_bool Try.underlying4 _), (trodAll_cons_mk (Below.trod laidOut (by kernel_rfl) (of_decide_eq_true (by kernel_rfl)) k0 bel lt0) (trodAll_cons_mk (Below.trod laidOut (by kernel_rfl) (of_decide_eq_true (by kernel_rfl)) k1 bel lt1) (trodAll_cons_mk (Below.trod laidOut (by kernel_rfl) (of_decide_eq_true (by kernel_rfl)) k2 bel lt2) (trodAll_cons_mk (Below.trod laidOut (by kernel_rfl) (of_decide_eq_true (by kernel_rfl)) k3 bel lt3) trodAll_mk0)))), rfl, bel.frame _, fun h => by cases h⟩

set_option maxRecDepth 100000 in
theorem over : Rows.edwReckonsRow.holds Try.pinned (OpenSpec.ofChange Rows.edwReckonsSpec) :=
  OpenClaim.holds_of_wide 8 Try.f8 rfl rfl rfl rfl rfl rfl rfl ⟨rfl, rfl, rfl, rfl, rfl⟩ rfl rfl rfl rfl rfl (by kernel_rfl) Try.func8 (by kernel_rfl)
    (of_decide_eq_true (by kernel_rfl)) (by unfold Func.isWrapper; first | (rw [if_pos (by decide +kernel)]; kernel_rfl) | (rw [if_neg (by decide +kernel)]; exact ⟨rfl, rfl⟩))
    (fun os started H enc _ => lifted os started H enc)
end edwReckons
set_option maxRecDepth 100000 in
/-- The given statement. -/
theorem edwReckons_proved : Rows.EdwReckonsSaid := edwReckons.over
#print axioms edwReckons_proved

end Go.Proofs.Ytceljjnohjnepaa
