/- The curve's laws: what all of them ask. Plain laws of rows of bytes: which is less, differences, sums with carries. The walks of the document's numbers: less, minus. The walks of the document's numbers: minus. A region that draws its order, in which just the first two operations may come either way: both ways. The walks of the document's numbers: Order, Of. -/
import Derived.Test.YtceljjnohjnepaaM16
import Derived.Test.YtceljjnohjnepaaM02
import Derived.Test.YtceljjnohjnepaaM13
import Derived.Deep.MidRow
import Derived.Deep.Cut
import Derived.Test.YtceljjnohjnepaaM01
namespace Go.Proofs.Ytceljjnohjnepaa
open Go Go.RowKit DG EG
attribute [local go_sem ↓] exl_Elem exs_Elem exl_Pt exs_Pt exb_Pt exl_RPt exs_RPt exb_RPt
                       attribute [local go_sem] ldr_Pt str_Pt to_quad0 pt_zero bld_pt bld_pt0 ldr_RPt str_RPt to_nine0 rpt_zero bld_rpt bld_rpt0

set_option maxRecDepth 100000 in
set_option maxHeartbeats 1000000 in
theorem is_eq (s : P4) (u : R3) (S : ByteArray) (W : World) (hs : s.bd) (hu : u.bd) (h1 : s.bytes = S) (h2 : u.bytes = S) : Calls Try.prog 25 #[pv s, rv u] W fun r w' => r = .returned (.bool true) ∧ Below W.heap.size W w' := by
  have B1 := hid (fun w => h1 ▸ pbytes_v s w hs)
  have B2 := hid (fun w => h2 ▸ rbytes_v u w hu)
  clear h1 h2
  go_enter Try.func25, Try.ntmps25
  go_upto_region 1 with (fail)
  obtain ⟨w1, hw1⟩ : ∃ w1, (W.alloc (.cells (pt s.x s.y s.z s.t true) 42)).alloc (.cells (rpt u.x u.y u.z) 46) = w1 := ⟨_, rfl⟩
  have kA := kept (show hget w1 (W.heap.size) = some (.cells (pt s.x s.y s.z s.t true) 42 (0, 0)) by rw [← hw1]; clear hw1; go_simp)
  have kB := kept (show hget w1 (W.heap.size + 1) = some (.cells (rpt u.x u.y u.z) 46 (0, 0)) by rw [← hw1]; clear hw1; go_simp)
  have b1 : Hid (Below W.heap.size W w1) := by rw [← hw1]; repeat (first | exact Below.refl _ _ | exact below_new _ | assumption | refine Below.drew ?_ | refine Below.drewN ?_ _ | refine below_alloc ?_ _ | refine below_blk' ?_ (by omega) _)
  rw [hw1]
  clear hw1
  try clear gA lA nA mA
  try clear jA
  have jA := kA.later
  obtain ⟨gA, lA, nA, mA⟩ := kA
  try clear gB lB nB mB
  try clear jB
  have jB := kB.later
  obtain ⟨gB, lB, nB, mB⟩ := kB
  refine wp_region_later (by kernel_rfl) (by kernel_rfl) ?_
  repeat ((go_big_quiet_step ((first | (go_at_call 23; with_reducible exact calls_later (B1.out _)) | (go_at_call 46; with_reducible exact calls_later (B2.out _))))))
  refine wpQuiet_nil ?_
  intro wL hwL
  obtain ⟨⟨w8, hL⟩, e8⟩ := hwL
  change wL = w8 at e8
  subst e8
  have b2 := hid (below_to b1.out hL)
  go_wp2_with fail
  go_ret
  exact ⟨rfl, b2.out⟩
set_option maxRecDepth 100000 in
theorem is_pt {s : P4} {u : R3} {p : Pt cv} (W : World) (hs : s.ok p) (hu : u.ok p) : Calls Try.prog 25 #[pv s, rv u] W fun r w' => r = .returned (.bool true) ∧ Below W.heap.size W w' :=
  is_eq s u (ptB p) W hs.bd hu.bd (P4.ok_bytes hs) (R3.ok_bytes hu)

set_option maxRecDepth 100000 in
theorem base_bytes : (dP bsB).bytes = bsB := (P4.ok_bytes base_ok).trans (by rw [← bsB_pt]; exact dPt_bytes bsB_ok)
set_option maxRecDepth 100000 in
theorem rbase_bytes : (rP bsB).bytes = bsB := (R3.ok_bytes (rP_ok bsB_ok)).trans (dPt_bytes bsB_ok)
set_option maxRecDepth 100000 in
theorem bP_ne : bP ≠ Pt.zero := fun h => by
  have := congrArg (fun q : Pt cv => q.x.val) h
  revert this
  show bxN % NT.P = 0 → False
  decide +kernel
set_option maxRecDepth 100000 in
theorem zero_bytes : P4.zero.bytes = encB 1 false := P4.ok_bytes P4.zero_ok
set_option maxRecDepth 100000 in
theorem enc1_size : (encB 1 false).size = 32 := enc_size _ _
set_option maxRecDepth 100000 in
theorem enc1_0 : ((encB 1 false)[0]'(by rw [enc1_size]; decide)).toNat = 1 := by decide +kernel
def shB : ByteArray := ⟨#[115, 104, 111, 114, 116]⟩
set_option maxRecDepth 100000 in
theorem dec_short : decV shB = .tuple #[noPt, .int .i64 2] := by
  unfold decV
  rw [if_neg (show ¬ dOk shB = true by unfold dOk; rw [decide_eq_false (by decide)]; simp), if_neg (by decide)]

set_option maxRecDepth 100000 in
set_option maxHeartbeats 4000000 in
theorem alive_core (b z : P4) (rb : R3) (B Z : ByteArray) (W : World) (hB : ∀ w, Calls Try.prog 35 #[] w fun r w' => r = .returned (pv b) ∧ Below w.heap.size w w') (hRB : ∀ w, Calls Try.prog 45 #[] w fun r w' => r = .returned (rv rb) ∧ Below w.heap.size w w')
    (hZ : ∀ w, Calls Try.prog 36 #[] w fun r w' => r = .returned (pv z) ∧ Below w.heap.size w w') (hb : b.bd) (hz : z.bd) (hrb : rb.bd)
    (h1 : b.bytes = B) (h2 : rb.bytes = B) (h3 : decV B = .tuple #[pv b, .int .i64 0]) (h4 : z.bytes = Z) (h5 : Z.size = 32) (h6 : (Z[0]'(by omega)).toNat = 1) (h7 : b.same b = true) (h8 : b.twice.same (b.add b) = true) (h9 : b.same z = false) (hBs : B.size = 32) :
    Calls Try.prog 18 #[] W fun r w' => r = .returned (.bool true) ∧ Below W.heap.size W w' := by
  have HB := hid hB
  have HRB := hid hRB
  have HZ := hid hZ
  have Y1 := hid (fun w => h1 ▸ pbytes_v b w hb)
  have Y2 := hid (fun w => h2 ▸ rbytes_v rb w hrb)
  have Y3 := hid (fun w => h4 ▸ pbytes_v z w hz)
  have D1 := hid (fun w => h3 ▸ pdecode_v B w (by omega))
  have D2 : Hid (∀ w, Calls Try.prog 19 #[.string ⟨#[115, 104, 111, 114, 116]⟩] w fun r w' => r = .returned (.tuple #[noPt, .int .i64 2]) ∧ Below w.heap.size w w') := hid (fun w => dec_short ▸ pdecode_v shB w (by decide))
  have S1 := hid (fun w => h7 ▸ psame_v b b w hb hb)
  have T1 := hid (fun w => ptwice_v b w hb)
  have A1 := hid (fun w => padd_v b b w hb hb)
  have S2 := hid (fun w => h8 ▸ psame_v b.twice (b.add b) w (P4.twice_bd hb) (P4.add_bd hb hb))
  have S3 := hid (fun w => h9 ▸ psame_v b z w hb hz)
  have N1 := hid (fun w => pbytes_no 0 0 0 0 w)
  clear hB hRB hZ h1 h2 h3 h4 h7 h8 h9 hb hz hrb
  generalize b.twice = bt at *
  generalize b.add b = ba at *
  have h0 : 0 < Z.size := by omega
  go_enter Try.func18, Try.ntmps18
  go_wp2_with fail
  refine (HB.out _).mono ?_
  rintro e w1 ⟨rfl, hb1⟩
  have b1 := hid hb1
  clear hb1
  go_upto_region 2 with (fail)
  skip
  obtain ⟨A, hA⟩ : ∃ b, w1.heap.size = b := ⟨_, rfl⟩
  have wA : W.heap.size ≤ A := by rw [← hA]; exact b1.out.size
  obtain ⟨w2, hw2⟩ : ∃ w2, w1.alloc (.cells (pt b.x b.y b.z b.t true) 42) = w2 := ⟨_, rfl⟩
  have kA := kept (show hget w2 (w1.heap.size) = some (.cells (pt b.x b.y b.z b.t true) 42) by rw [← hw2]; clear hw2; go_simp)
  have b2 : Hid (Below W.heap.size W w2) := by rw [← hw2]; repeat (first | exact Below.refl _ _ | exact below_new _ | exact b1.out | assumption | refine Below.drew ?_ | refine Below.drewN ?_ _ | refine below_alloc ?_ _ | refine below_blk' ?_ (by omega) _)
  rw [hw2]
  clear hw2
  try clear gA lA nA mA
  try clear jA
  have jA := kA.later
  obtain ⟨gA, lA, nA, mA⟩ := kA
  clear b1
  rw [hA] at *
  clear hA
  go_wp2_with fail
  try clear jA
  refine (Y1.out _).mono ?_
  rintro e w3 ⟨rfl, hb3⟩
  have kA := Kept.on (kept (b := A) (o := .cells (pt b.x b.y b.z b.t true) 42 (0, 0)) (by go_simp)) hb3
  have b3 : Hid (Below W.heap.size W w3) := below_to (by repeat (first | exact Below.refl _ _ | exact below_new _ | exact b2.out | assumption | refine Below.drew ?_ | refine Below.drewN ?_ _ | refine below_alloc ?_ _ | refine below_blk' ?_ (by omega) _)) hb3
  clear hb3
  try clear gA lA nA mA
  obtain ⟨gA, lA, nA, mA⟩ := kA
  clear b2
  go_wp2_with fail
  try clear jA
  refine (D1.out _).mono ?_
  rintro e w4 ⟨rfl, hb4⟩
  have kA := Kept.on (kept (b := A) (o := .cells (pt b.x b.y b.z b.t true) 42 (0, 0)) (by go_simp)) hb4
  have b4 : Hid (Below W.heap.size W w4) := below_to (by repeat (first | exact Below.refl _ _ | exact below_new _ | exact b3.out | assumption | refine Below.drew ?_ | refine Below.drewN ?_ _ | refine below_alloc ?_ _ | refine below_blk' ?_ (by omega) _)) hb4
  clear hb4
  try clear gA lA nA mA
  obtain ⟨gA, lA, nA, mA⟩ := kA
  clear b3
  go_upto_region 3 with (fail)
  obtain ⟨B, hB⟩ : ∃ b, w4.heap.size = b := ⟨_, rfl⟩
  have wB : W.heap.size ≤ B := by rw [← hB]; exact b4.out.size
  have eAB : (A = B) = False := by rw [← hB]; exact nA
  have eBA : (B = A) = False := by rw [← hB]; exact mA
  obtain ⟨w5, hw5⟩ : ∃ w5, w4.alloc (.cells (pt b.x b.y b.z b.t true) 42) = w5 := ⟨_, rfl⟩
  have kA := kept (show hget w5 (A) = some (.cells (pt b.x b.y b.z b.t true) 42 (0, 0)) by rw [← hw5]; clear hw5; go_simp)
  have kB := kept (show hget w5 (w4.heap.size) = some (.cells (pt b.x b.y b.z b.t true) 42) by rw [← hw5]; clear hw5; go_simp)
  have b5 : Hid (Below W.heap.size W w5) := by rw [← hw5]; repeat (first | exact Below.refl _ _ | exact below_new _ | exact b4.out | assumption | refine Below.drew ?_ | refine Below.drewN ?_ _ | refine below_alloc ?_ _ | refine below_blk' ?_ (by omega) _)
  rw [hw5]
  clear hw5
  try clear gA lA nA mA
  try clear jA
  have jA := kA.later
  obtain ⟨gA, lA, nA, mA⟩ := kA
  try clear gB lB nB mB
  try clear jB
  have jB := kB.later
  obtain ⟨gB, lB, nB, mB⟩ := kB
  clear b4
  rw [hB] at *
  clear hB
  go_wp2_with fail
  try clear jA jB
  refine (D2.out _).mono ?_
  rintro e w6 ⟨rfl, hb6⟩
  have kA := Kept.on (kept (b := A) (o := .cells (pt b.x b.y b.z b.t true) 42 (0, 0)) (by go_simp)) hb6
  have kB := Kept.on (kept (b := B) (o := .cells (pt b.x b.y b.z b.t true) 42 (0, 0)) (by go_simp)) hb6
  have b6 : Hid (Below W.heap.size W w6) := below_to (by repeat (first | exact Below.refl _ _ | exact below_new _ | exact b5.out | assumption | refine Below.drew ?_ | refine Below.drewN ?_ _ | refine below_alloc ?_ _ | refine below_blk' ?_ (by omega) _)) hb6
  clear hb6
  try clear gA lA nA mA
  obtain ⟨gA, lA, nA, mA⟩ := kA
  try clear gB lB nB mB
  obtain ⟨gB, lB, nB, mB⟩ := kB
  clear b5
  go_upto_region 4 with (fail)
  obtain ⟨C, hC⟩ : ∃ b, w6.heap.size = b := ⟨_, rfl⟩
  have wC : W.heap.size ≤ C := by rw [← hC]; exact b6.out.size
  have eAC : (A = C) = False := by rw [← hC]; exact nA
  have eCA : (C = A) = False := by rw [← hC]; exact mA
  have eBC : (B = C) = False := by rw [← hC]; exact nB
  have eCB : (C = B) = False := by rw [← hC]; exact mB
  obtain ⟨w7, hw7⟩ : ∃ w7, w6.alloc (.cells (pt 0 0 0 0 false) 42) = w7 := ⟨_, rfl⟩
  have kA := kept (show hget w7 (A) = some (.cells (pt b.x b.y b.z b.t true) 42 (0, 0)) by rw [← hw7]; clear hw7; go_simp)
  have kB := kept (show hget w7 (B) = some (.cells (pt b.x b.y b.z b.t true) 42 (0, 0)) by rw [← hw7]; clear hw7; go_simp)
  have kC := kept (show hget w7 (w6.heap.size) = some (.cells (pt 0 0 0 0 false) 42) by rw [← hw7]; clear hw7; go_simp)
  have b7 : Hid (Below W.heap.size W w7) := by rw [← hw7]; repeat (first | exact Below.refl _ _ | exact below_new _ | exact b6.out | assumption | refine Below.drew ?_ | refine Below.drewN ?_ _ | refine below_alloc ?_ _ | refine below_blk' ?_ (by omega) _)
  rw [hw7]
  clear hw7
  try clear gA lA nA mA
  try clear jA
  have jA := kA.later
  obtain ⟨gA, lA, nA, mA⟩ := kA
  try clear gB lB nB mB
  try clear jB
  have jB := kB.later
  obtain ⟨gB, lB, nB, mB⟩ := kB
  try clear gC lC nC mC
  try clear jC
  have jC := kC.later
  obtain ⟨gC, lC, nC, mC⟩ := kC
  clear b6
  rw [hC] at *
  clear hC
  go_wp2_with fail
  try clear jA jB jC
  refine (HZ.out _).mono ?_
  rintro e w8 ⟨rfl, hb8⟩
  have kA := Kept.on (kept (b := A) (o := .cells (pt b.x b.y b.z b.t true) 42 (0, 0)) (by go_simp)) hb8
  have kB := Kept.on (kept (b := B) (o := .cells (pt b.x b.y b.z b.t true) 42 (0, 0)) (by go_simp)) hb8
  have kC := Kept.on (kept (b := C) (o := .cells (pt 0 0 0 0 false) 42 (0, 0)) (by go_simp)) hb8
  have b8 : Hid (Below W.heap.size W w8) := below_to (by repeat (first | exact Below.refl _ _ | exact below_new _ | exact b7.out | assumption | refine Below.drew ?_ | refine Below.drewN ?_ _ | refine below_alloc ?_ _ | refine below_blk' ?_ (by omega) _)) hb8
  clear hb8
  try clear gA lA nA mA
  obtain ⟨gA, lA, nA, mA⟩ := kA
  try clear gB lB nB mB
  obtain ⟨gB, lB, nB, mB⟩ := kB
  try clear gC lC nC mC
  obtain ⟨gC, lC, nC, mC⟩ := kC
  clear b7
  go_wp2_with fail
  try clear jA jB jC
  refine (Y3.out _).mono ?_
  rintro e w9 ⟨rfl, hb9⟩
  have kA := Kept.on (kept (b := A) (o := .cells (pt b.x b.y b.z b.t true) 42 (0, 0)) (by go_simp)) hb9
  have kB := Kept.on (kept (b := B) (o := .cells (pt b.x b.y b.z b.t true) 42 (0, 0)) (by go_simp)) hb9
  have kC := Kept.on (kept (b := C) (o := .cells (pt 0 0 0 0 false) 42 (0, 0)) (by go_simp)) hb9
  have b9 : Hid (Below W.heap.size W w9) := below_to (by repeat (first | exact Below.refl _ _ | exact below_new _ | exact b8.out | assumption | refine Below.drew ?_ | refine Below.drewN ?_ _ | refine below_alloc ?_ _ | refine below_blk' ?_ (by omega) _)) hb9
  clear hb9
  try clear gA lA nA mA
  obtain ⟨gA, lA, nA, mA⟩ := kA
  try clear gB lB nB mB
  obtain ⟨gB, lB, nB, mB⟩ := kB
  try clear gC lC nC mC
  obtain ⟨gC, lC, nC, mC⟩ := kC
  clear b8
  go_upto_region 5 with (fail)
  have jA := Kept.later (kept gA)
  have jB := Kept.later (kept gB)
  have jC := Kept.later (kept gC)
  clear hBs
  refine wp_region_later (by kernel_rfl) (by kernel_rfl) ?_
  repeat ((go_big_quiet_step ((first | (go_at_call 24; first | with_reducible exact calls_later (S1.out _) | with_reducible exact calls_later (S2.out _) | with_reducible exact calls_later (S3.out _)) | (go_at_call 29; with_reducible exact calls_later (T1.out _)) | (go_at_call 27; with_reducible exact calls_later (A1.out _)) | (go_at_call 36; with_reducible exact calls_later (HZ.out _)) | (go_at_call 23; first | with_reducible exact calls_later (Y1.out _) | with_reducible exact calls_later (N1.out _)) | (go_at_call 45; with_reducible exact calls_later (HRB.out _)) | (go_at_call 46; with_reducible exact calls_later (Y2.out _))))))
  refine wpQuiet_nil ?_
  intro wL hwL
  obtain ⟨⟨w8, hL⟩, e8⟩ := hwL
  change wL = w8 at e8
  subst e8
  have bZ := hid (below_to b9.out hL)
  go_wp2_with fail
  go_ret
  exact ⟨rfl, bZ.out⟩
set_option maxRecDepth 100000 in
theorem alive_any (W : World) : Calls Try.prog 18 #[] W fun r w' => r = .returned (.bool true) ∧ Below W.heap.size W w' :=
  alive_core (dP bsB) P4.zero (rP bsB) bsB (encB 1 false) W pbase_any rbase_any pzero_any P4.base_bd P4.zero_ok.bd rbase_bd base_bytes rbase_bytes decB zero_bytes enc1_size enc1_0
    ((P4.same_iff base_ok base_ok).2 rfl) ((P4.same_iff (P4.twice_ok base_ok) (P4.add_ok base_ok base_ok)).2 rfl) (Bool.eq_false_iff.2 fun h => bP_ne ((P4.same_iff base_ok P4.zero_ok).1 h)) (by decide)

end Go.Proofs.Ytceljjnohjnepaa

namespace Go.Proofs.Ytceljjnohjnepaa
namespace DG
variable {B : Nat}

set_option maxRecDepth 100000 in
theorem oless_at {a b : List Nat} (ha : All B a) (_hb : All B b) (hl : a.length = b.length) {k : Nat} (hk : k < a.length) (hd : a.drop (k + 1) = b.drop (k + 1)) (hlt : a.getD k 0 < b.getD k 0) : val B a < val B b := by
  rw [val_split a k hk, val_split b k (by omega), hd]
  have h1 := val_take_lt ha (k := k) (by omega)
  have h2 : B ^ k * (a.getD k 0 + B * val B (b.drop (k + 1)) + 1) ≤ B ^ k * (b.getD k 0 + B * val B (b.drop (k + 1))) := Nat.mul_le_mul_left _ (by omega)
  rw [Nat.mul_add, Nat.mul_one] at h2
  omega
set_option maxRecDepth 100000 in
theorem oless_iff {a b : List Nat} (ha : All B a) (hb : All B b) (hl : a.length = b.length) {k : Nat} (hk : k < a.length) (hd : a.drop (k + 1) = b.drop (k + 1)) (hne : a.getD k 0 ≠ b.getD k 0) :
    decide (a.getD k 0 < b.getD k 0) = decide (val B a < val B b) := by
  rcases Nat.lt_or_gt_of_ne hne with h | h
  · rw [decide_eq_true h, decide_eq_true (oless_at ha hb hl hk hd h)]
  · have := oless_at hb ha hl.symm (by omega) hd.symm h
    rw [decide_eq_false (by omega), decide_eq_false (by omega)]
set_option maxRecDepth 100000 in
theorem odrop_step {a b : List Nat} {k : Nat} (hk : k < a.length) (hl : a.length = b.length) (hd : a.drop (k + 1) = b.drop (k + 1)) (he : a.getD k 0 = b.getD k 0) : a.drop k = b.drop k := by
  rw [List.drop_eq_getElem_cons hk, List.drop_eq_getElem_cons (by omega : k < b.length), hd]
  rw [getD_at hk, getD_at (by omega)] at he
  rw [he]

end DG
end Go.Proofs.Ytceljjnohjnepaa

namespace Go.Proofs.Ytceljjnohjnepaa
open Go.RowKit DG

set_option maxRecDepth 100000 in
theorem oref_less (a b : List Nat) (W : World) (ha : All 256 a) (hb : All 256 b) (hal : a.length = 32) (hbl : b.length = 32) :
    Calls Try.prog 68 #[.agg (ints .u8 a), .agg (ints .u8 b)] W fun e w' => e = .returned (.bool (decide (val 256 a < val 256 b))) ∧ Below W.heap.size W w' := by
  have hsa : (ints .u8 a).size = 32 := by rw [ints_size, hal]
  have hsb : (ints .u8 b).size = 32 := by rw [ints_size, hbl]
  go_enter Try.func68, Try.ntmps68
  go_wp2_with fail
  obtain ⟨N, hN⟩ : ∃ N, N = W.heap.size := ⟨_, rfl⟩
  rw [← hN]
  have HN := hid hN
  go_loopw [5] (fun i wr => ∃ k : Nat, k ≤ 32 ∧ i = .int .i64 ((k : Int) - 1) ∧ a.drop k = b.drop k ∧ wr.heap[N]? = some (.cells (ints .u8 a) 65 (0, 0)) ∧ wr.heap[N + 1]? = some (.cells (ints .u8 b) 65 (0, 0)) ∧ Below W.heap.size W wr) (fun i _ => (intOf i + 1).toNat)
  case atStart =>
    refine ⟨32, by omega, rfl, by rw [List.drop_of_length_le (by omega), List.drop_of_length_le (by omega)], alloc_old (alloc_at' hN _), alloc_at' (by simp [hN]) _, below_alloc (below_new _) _⟩
  case round =>
    obtain ⟨k, hk, rfl, hd, rA, rB, rb⟩ := hrel
    have HD := hid hd
    have RBE := hid rb
    have HAL := hid hal
    have HBL := hid hbl
    clear hd rb hN
    match k with
    | 0 =>
      have hkd : decide ((0 : Int) - 1 ≥ 0) = false := decide_eq_false (by omega)
      go_wp2_with fail
      refine bodyPost_ret (v := .bool false) (by simp [results, Try.results68, go_sem]) rfl ⟨?_, RBE.out⟩
      rw [show a = b from by simpa using HD.out]
      simp
    | m + 1 =>
      have he : ((m + 1 : Nat) : Int) - 1 = (m : Int) := by omega
      rw [he]
      have hkd : decide ((m : Int) ≥ 0) = true := decide_eq_true (by omega)
      have hm : m < 32 := by omega
      have hi0 : 0 ≤ (m : Int) := by omega
      have hi1 : (m : Int) < 32 := by omega
      have ca := ints_cell rA (j := m) (by omega)
      have cb := ints_cell rB (j := m) (by omega)
      have hx := ha.getD (j := m) (by omega)
      have hy := hb.getD (j := m) (by omega)
      have RA := hid rA
      have RB := hid rB
      clear rA rB
      generalize hxa : a.getD m 0 = x at *
      generalize hyb : b.getD m 0 = y at *
      have HX := hid hxa
      have HY := hid hyb
      clear hxa hyb hal hbl hsa hsb
      go_wp2_with fail
      go_quiet (fail)
      by_cases hxy : x = y
      · have hne : (((x : Int) != (y : Int))) = false := by simp [hxy]
        go_wp2_with fail
        exact ⟨⟨m, by omega, rfl, odrop_step (by have := HAL.out; omega) (HAL.out.trans HBL.out.symm) HD.out (by rw [HX.out, HY.out, hxy]), RA.out, RB.out, RBE.out.trans (Dr.below ⟨_, rfl⟩)⟩, by simp [intOf]⟩
      · have hne : (((x : Int) != (y : Int))) = true := by simp [bne_iff_ne]; omega
        go_wp2_with fail
        go_quiet (fail)
        go_wp2_with fail
        refine bodyPost_ret (v := .bool (decide (x < y))) (by simp [results, Try.results68, go_sem]) rfl ⟨?_, ?_⟩
        · have := oless_iff ha hb (HAL.out.trans HBL.out.symm) (k := m) (by have := HAL.out; omega) HD.out (by rw [HX.out, HY.out]; exact hxy)
          rw [HX.out, HY.out] at this
          rw [this]
        · exact RBE.out.trans ((Dr.below ⟨_, rfl⟩).trans (Dr.below ⟨_, rfl⟩))


end Go.Proofs.Ytceljjnohjnepaa

namespace Go.Proofs.Ytceljjnohjnepaa
open Go.RowKit DG

set_option maxRecDepth 100000 in
theorem info_RNum : (Try.prog.info? 65).map (·.size) = some 32 := by kernel_rfl
set_option maxRecDepth 100000 in
theorem row_range {w : World} {b : Nat} {k : IntKind} {l : List Nat} {T : TypeId} {fz : Nat × Nat} (h : w.heap[b]? = some (.cells (ints k l) T fz)) : w.rangeAt b 0 (l.map fun (x : Nat) => Value.int k (x : Int)) := fun j v hv => by
  rw [Nat.zero_add, cell_at h]
  simpa [ints] using hv
set_option maxRecDepth 100000 in
theorem load_num {w : World} {b : Nat} {l : List Nat} {T : TypeId} {fz : Nat × Nat} (hl : l.length = 32) (h : w.heap[b]? = some (.cells (ints .u8 l) T fz)) :
    (Instr.loadAt 65 (.pointer (some ⟨b, 0, none⟩))).run Try.prog w = .ok (.agg (ints .u8 l)) w :=
  run_loadAt_mid w b 0 65 _ _ (row_range h) Try.underlying65 rfl (by rw [info_RNum]; simp [hl])
set_option maxRecDepth 100000 in
theorem setCells_blk (vs : List Value) : ∀ (w : World) (b : Nat) (pre old post : List Value) (T : TypeId) (fz : Nat × Nat), w.heap[b]? = some (.cells (pre ++ old ++ post).toArray T fz) → old.length = vs.length →
    w.setCells b pre.length vs = blk w b (.cells (pre ++ vs ++ post).toArray T fz) := by
  induction vs with
  | nil =>
    intro w b pre old post T fz h hl
    have : old = [] := List.length_eq_zero_iff.1 hl
    subst this
    exact (blk_self h).symm
  | cons v vs ih =>
    intro w b pre old post T fz h hl
    match old, hl with
    | o :: old, hl =>
      have h1 := at_setCell h pre.length v
      have e : ((pre ++ (o :: old) ++ post).toArray.setIfInBounds pre.length v) = ((pre ++ [v]) ++ old ++ post).toArray := by
        rw [List.setIfInBounds_toArray]; simp
      rw [e] at h1
      have h2 := ih (w.setCell ⟨b, pre.length, none⟩ v) b (pre ++ [v]) old post T fz h1 (by simpa using hl)
      rw [List.length_append, List.length_singleton] at h2
      rw [World.setCells, h2, setCell_blk h, blk_blk]
      simp
set_option maxRecDepth 100000 in
theorem there_row {w : World} {b n : Nat} {c : Array Value} {T : TypeId} (h : w.heap[b]? = some (.cells c T (0, 0))) (hn : n ≤ c.size) : w.there b 0 n := fun j hj => by
  rw [Nat.zero_add, cell_at h, free_at h]
  simp; omega
set_option maxRecDepth 100000 in
theorem store_num {w : World} {b : Nat} {l : List Nat} {c : Array Value} {T : TypeId} (hl : l.length = 32) (h : w.heap[b]? = some (.cells c T (0, 0))) (hc : c.size = 32) :
    (Instr.storeAt 65 (.pointer (some ⟨b, 0, none⟩)) (.agg (ints .u8 l))).run Try.prog w = .ok () (blk w b (.cells (ints .u8 l) T (0, 0))) := by
  have h1 := run_storeAt_mid (P := Try.prog) w b 0 65 (ints .u8 l) (there_row h (by rw [ints_size]; omega)) (by rw [info_RNum, ints_size, hl]) (by
    rw [Array.all_eq_true_iff_forall_mem]
    intro v hv
    simp only [ints, List.mem_toArray, List.mem_map] at hv
    obtain ⟨x, _, rfl⟩ := hv
    rfl)
  rw [h1]
  have h2 := setCells_blk (ints .u8 l).toList w b [] c.toList [] T (0, 0) (by simpa using h) (by simp [ints_size, hl, hc])
  simp only [List.length_nil, List.nil_append, List.append_nil] at h2
  rw [h2]

set_option maxRecDepth 100000 in
theorem ints_one (l : List Nat) : (ints .u8 l).all (·.oneCell') = true := by
  rw [Array.all_eq_true_iff_forall_mem]
  intro v hv
  simp only [ints, List.mem_toArray, List.mem_map] at hv
  obtain ⟨x, _, rfl⟩ := hv
  rfl
section
variable {ops : Array Oper} {rest : List Oper} {op : Oper} {a : Act} {w : World} {Q : Exit → Act → World → Prop}
set_option maxRecDepth 100000 in
theorem wp_load_num (hgd : op.guard = none) (x : Operand) (ho : op.op = .load 65 x) {b : Nat} (hx : a.eval x = .pointer (some ⟨b, 0, none⟩)) {l : List Nat} {T : TypeId} {fz : Nat × Nat}
    (hl : l.length = 32) (h : w.heap[b]? = some (.cells (ints .u8 l) T fz)) (k : wpList Try.prog ops Q rest (a.put op.dst (.agg (ints .u8 l))) w) : wpList Try.prog ops Q (op :: rest) a w :=
  wpList_load_mid hgd 65 x ho b 0 hx _ _ (row_range h) Try.underlying65 rfl (by rw [info_RNum]; simp [hl]) k
set_option maxRecDepth 100000 in
theorem wp_store_num (hgd : op.guard = none) (x y : Operand) (ho : op.op = .store 65 x y) {b : Nat} (hx : a.eval x = .pointer (some ⟨b, 0, none⟩)) {l : List Nat} {c : Array Value} {T : TypeId} (hy : a.eval y = .agg (ints .u8 l))
    (hl : l.length = 32) (h : w.heap[b]? = some (.cells c T (0, 0))) (hc : c.size = 32) (k : wpList Try.prog ops Q rest (a.put op.dst undef) (blk w b (.cells (ints .u8 l) T (0, 0)))) : wpList Try.prog ops Q (op :: rest) a w := by
  refine wpList_store_mid hgd 65 x y ho b 0 (ints .u8 l) hx hy (there_row h (by rw [ints_size]; omega)) (by rw [info_RNum, ints_size, hl]) (ints_one l) ?_
  have h2 := setCells_blk (ints .u8 l).toList w b [] c.toList [] T (0, 0) (by simpa using h) (by simp [ints_size, hl, hc])
  simp only [List.length_nil, List.nil_append, List.append_nil] at h2
  rw [h2]
  exact k
end

set_option maxRecDepth 100000 in
theorem oref_minus (a b : List Nat) (W : World) (ha : All 256 a) (hb : All 256 b) (hal : a.length = 32) (hbl : b.length = 32) (hle : val 256 b ≤ val 256 a) :
    Calls Try.prog 70 #[.agg (ints .u8 a), .agg (ints .u8 b)] W fun e w' => e = .returned (.agg (ints .u8 (digs 256 (val 256 a - val 256 b) 32))) ∧ Below W.heap.size W w' := by
  have hsa : (ints .u8 a).size = 32 := by rw [ints_size, hal]
  have hsb : (ints .u8 b).size = 32 := by rw [ints_size, hbl]
  go_enter Try.func70, Try.ntmps70
  go_wp2_with fail
  obtain ⟨N, hN⟩ : ∃ N, N = W.heap.size := ⟨_, rfl⟩
  rw [← hN]
  have HN := hid hN
  have hz : #[.int .u8 0, .int .u8 0, .int .u8 0, .int .u8 0, .int .u8 0, .int .u8 0, .int .u8 0, .int .u8 0, .int .u8 0, .int .u8 0, .int .u8 0, .int .u8 0, .int .u8 0, .int .u8 0, .int .u8 0, .int .u8 0, .int .u8 0, .int .u8 0, .int .u8 0, .int .u8 0, .int .u8 0, .int .u8 0, .int .u8 0, .int .u8 0, .int .u8 0, .int .u8 0, .int .u8 0, .int .u8 0, .int .u8 0, .int .u8 0, .int .u8 0, .int .u8 0] = ints .u8 (List.replicate 32 0) := rfl
  rw [hz]
  have HAL := hid hal
  have HBL := hid hbl
  go_loopw [5, 6] (fun cy i wr => ∃ (k r : Nat) (c : List Nat), k ≤ 32 ∧ i = .int .i64 (k : Int) ∧ cy = .int .i64 (r : Int) ∧ r ≤ 1 ∧ c.length = 32 ∧ All 256 c ∧ val 256 c + val 256 (b.take k) = val 256 a + r * 256 ^ k ∧
    wr.heap[N]? = some (.cells (ints .u8 c) 65 (0, 0)) ∧ wr.heap[N + 1]? = some (.cells (ints .u8 b) 65 (0, 0)) ∧ wr.heap[N + 1 + 1]? = some (.cells (ints .u8 (List.replicate 32 0)) 65 (0, 0)) ∧ Below W.heap.size W wr) (fun _ i _ => (32 - intOf i).toNat)
  case atStart =>
    refine ⟨0, 0, a, by omega, rfl, rfl, by omega, hal, ha, by simp [val], alloc_old (alloc_old (alloc_at' hN _)), alloc_old (alloc_at' (by simp [hN]) _), alloc_at' (by simp [hN]) _, below_alloc (below_alloc (below_new _) _) _⟩
  case round =>
    clear hN hz
    obtain ⟨k, r, c, hk, rfl, rfl, hr, hcl, hca, hv, rA, rB, rZ, rb⟩ := hrel
    have HV := hid hv
    have RBE := hid rb
    have RZ := hid rZ
    have HCL := hid hcl
    clear hv rb rZ
    by_cases hk32 : k < 32
    · have hkd : decide ((k : Int) < 32) = true := decide_eq_true (by omega)
      have hi0 : 0 ≤ (k : Int) := by omega
      have hi1 : (k : Int) < 32 := by omega
      have cc := ints_cell rA (j := k) (by omega)
      have cb := ints_cell rB (j := k) (by omega)
      have hx := hca.getD (j := k) (by omega)
      have hy := hb.getD (j := k) (by omega)
      have hfa := free_at rA
      have RA := hid rA
      have RB := hid rB
      clear rA rB
      generalize hxa : c.getD k 0 = x at *
      generalize hyb : b.getD k 0 = y at *
      have HX := hid hxa
      have HY := hid hyb
      clear hxa hyb hal hbl hsa hsb hcl
      obtain ⟨X, hX⟩ : ∃ X : Nat, (256 + (x : Int) - (y : Int) - (r : Int)) = (X : Int) := ⟨256 + x - y - r, by omega⟩
      have hX2 : X < 512 := by omega
      have HXX := hid hX
      clear hX
      go_wp2_with fail
      go_quiet (fail)
      rw [HXX.out]
      go_wp2_with fail
      have hr' : ∃ r' : Nat, r' ≤ 1 ∧ (1 - (X : Int) / 256) = (r' : Int) ∧ X % 256 + y + r = x + r' * 256 := by
        have := HXX.out
        exact ⟨1 - X / 256, by omega, by omega, by omega⟩
      obtain ⟨r', hr1, hr2, hr3⟩ := hr'
      have hst := minus_step (B := 256) (c := c) (b := b) (k := k) (x := X % 256) (by rw [HCL.out]; omega) HV.out (by rw [HBL.out]; omega) (by rw [HX.out, HY.out]; exact hr3)
      have hXm : ((X : Int) % 256) = ((X % 256 : Nat) : Int) := by omega
      refine ⟨⟨k + 1, r', c.set k (X % 256), by omega, by go_num, by rw [hr2], hr1, by simp [HCL.out], All.set hca _ (by omega), hst, ?_, at_setCell_other RB.out (by simp) _, at_setCell_other RZ.out (by simp; omega) _, (RBE.out.setCell (by have := HN.out; simp; omega) _).trans (Dr.below ⟨_, rfl⟩)⟩, by simp [intOf]; omega⟩
      rw [hXm]
      exact ints_store RA.out _ _
    · have hkd : decide ((k : Int) < 32) = false := decide_eq_false (by omega)
      go_upto_region 8 with (fail)
      refine wp_region_list ?_
      refine wp_load_num (by rfl) _ (by rfl) (by rfl) HCL.out rA ?_
      refine wp_store_num (by rfl) _ _ (by rfl) (by rfl) (by rfl) HCL.out RZ.out (by simp [ints_size]) ?_
      have RN := hid (blk_heap (o := .cells (ints .u8 c) 65 (0, 0)) (lt_blk RZ.out))
      have hNle : W.heap.size ≤ N + 1 + 1 := by have := HN.out; omega
      go_wp2_with fail
      refine bodyPost_ret (v := .agg (ints .u8 c)) (results_cell_row Try.results70 _ _ (N + 1 + 1) _ _ _ _ (by rfl) RN.out Try.underlying65 rfl (by rw [info_RNum, ints_size, hcl])) rfl ⟨?_, below_blk' RBE.out hNle _⟩
      have hk5 : k = 32 := by omega
      have hv := HV.out
      rw [hk5, List.take_of_length_le (by omega)] at hv
      rw [minus_end hca hcl hle (by have := val_lt ha; rwa [hal] at this) hv hb hbl]

end Go.Proofs.Ytceljjnohjnepaa

namespace Go.Proofs.Ytceljjnohjnepaa
open Go Go.RowKit
variable {P : Program} {Q : Exit → Act → World → Prop} {a : Act} {w : World}
set_option maxRecDepth 100000 in
theorem wp_region_two {id : Nat} {o0 o1 : Oper} {l : List Oper} (hm : P.follows .mixedOrders = true)
    (hr : Region.ready .any (o0 :: o1 :: l).toArray (Array.replicate (l.length + 2) false) = [0, 1])
    (hs1 : Region.seqB .any (o0 :: o1 :: l).toArray (l.length + 1) 1 ((Array.replicate (l.length + 2) false).setIfInBounds 0 true) = true)
    (hr2 : Region.ready .any (o0 :: o1 :: l).toArray ((Array.replicate (l.length + 2) false).setIfInBounds 1 true) = [0])
    (hs2 : Region.seqB .any (o0 :: o1 :: l).toArray l.length 2 (((Array.replicate (l.length + 2) false).setIfInBounds 1 true).setIfInBounds 0 true) = true)
    (h1 : wpList P (o0 :: o1 :: l).toArray Q (o0 :: o1 :: l) a w.drew) (h2 : wpList P (o0 :: o1 :: l).toArray Q (o1 :: o0 :: l) a w.drew) : (Code.region id (o0 :: o1 :: l).toArray true).wp P Q a w := by
  refine wp_region_any hm ?_
  show wpAny P .any (o0 :: o1 :: l).toArray Q (l.length + 1 + 1) (Array.replicate (l.length + 2) false) a w.drew
  refine ⟨fun h0 => (by rw [hr] at h0; cases h0), fun i hi => ?_⟩
  rw [hr] at hi
  have hi' : i = 0 ∨ i = 1 := by simpa using hi
  rcases hi' with rfl | rfl
  · have hw : wpOp P (o0 :: o1 :: l).toArray Q 0 (wpList P (o0 :: o1 :: l).toArray Q (o1 :: l)) a w.drew := by unfold wpOp; exact h1
    exact wpOp_mono (fun a' w' h' => wpAny_of_seq (o1 :: l) 1 _ a' w' (fun j => by simp [Nat.add_comm 1 j]) hs1 h') hw
  · have hw : wpOp P (o0 :: o1 :: l).toArray Q 1 (wpList P (o0 :: o1 :: l).toArray Q (o0 :: l)) a w.drew := by unfold wpOp; exact h2
    refine wpOp_mono (fun a' w' h' => ?_) hw
    refine ⟨fun h0 => (by rw [hr2] at h0; cases h0), fun i hi => ?_⟩
    rw [hr2] at hi
    have hi' : i = 0 := by simpa using hi
    subst hi'
    have hw2 : wpOp P (o0 :: o1 :: l).toArray Q 0 (wpList P (o0 :: o1 :: l).toArray Q l) a' w' := by unfold wpOp; exact h'
    exact wpOp_mono (fun a' w' h' => wpAny_of_seq l 2 _ a' w' (fun j => by simp [Nat.add_comm 2 j]) hs2 h') hw2
end Go.Proofs.Ytceljjnohjnepaa

namespace Go.Proofs.Ytceljjnohjnepaa
open Go.RowKit DG

section
variable {ops : Array Oper} {rest : List Oper} {op : Oper} {a : Act} {w : World} {Q : Exit → Act → World → Prop}
set_option maxRecDepth 100000 in
theorem owp_build (hgd : op.guard = none) (t : TypeId) (parts : Array (Nat × Operand)) (ho : op.op = .build t parts) (cells : Array Value) (h : Try.prog.built t (parts.map fun (i, x) => (i, a.eval x)).toList = some cells)
    (k : wpList Try.prog ops Q rest (a.put op.dst (.agg cells)) w) : wpList Try.prog ops Q (op :: rest) a w :=
  wpList_plain hgd fun _ hK => by
    unfold Oper.wp execOp
    simp only [ho, Sem.run_bind, Sem.run_pure, Result.andThen_ok, run_build w t _ cells h]
    exact hK _ _ k
end

set_option maxRecDepth 100000 in
theorem ordL_row : digs 256 ordL 32 = [237, 211, 245, 92, 26, 99, 18, 88, 214, 156, 247, 162, 222, 249, 222, 20, 0, 0, 0, 0, 0, 0, 0, 0, 0, 0, 0, 0, 0, 0, 0, 16] := by decide +kernel

set_option maxRecDepth 100000 in
theorem ref_Order (W : World) : Calls Try.prog 69 #[] W fun e w' => e = .returned (.agg (ints .u8 (digs 256 ordL 32))) ∧ Below W.heap.size W w' := by
  rw [ordL_row]
  go_enter Try.func69, Try.ntmps69
  go_upto_region 1 with (fail)
  refine wp_region_list ?_
  refine owp_build (by rfl) _ _ (by rfl) (ints .u8 [237, 211, 245, 92, 26, 99, 18, 88, 214, 156, 247, 162, 222, 249, 222, 20, 0, 0, 0, 0, 0, 0, 0, 0, 0, 0, 0, 0, 0, 0, 0, 16]) (by kernel_rfl) ?_
  refine wp_store_num (by rfl) _ _ (by rfl) (by rfl) (by rfl) (by rfl) (alloc_at _ _) (by rfl) ?_
  have RN := hid (blk_heap (w := W.alloc (.cells (ints .u8 (List.replicate 32 0)) 65)) (b := W.heap.size) (o := .cells (ints .u8 [237, 211, 245, 92, 26, 99, 18, 88, 214, 156, 247, 162, 222, 249, 222, 20, 0, 0, 0, 0, 0, 0, 0, 0, 0, 0, 0, 0, 0, 0, 0, 16]) 65 (0, 0)) (lt_blk (alloc_at _ _)))
  go_wp2_with fail
  refine bodyPost_ret (v := .agg (ints .u8 [237, 211, 245, 92, 26, 99, 18, 88, 214, 156, 247, 162, 222, 249, 222, 20, 0, 0, 0, 0, 0, 0, 0, 0, 0, 0, 0, 0, 0, 0, 0, 16])) (results_cell_row Try.results69 _ _ (W.heap.size) _ _ _ _ (by rfl) RN.out Try.underlying65 rfl (by rw [info_RNum]; rfl)) rfl ⟨rfl, below_blk' (below_new _) (Nat.le_refl _) _⟩

set_option maxRecDepth 100000 in
/-- One digit of doubling. -/
theorem dbl_step {B : Nat} {c l : List Nat} {k cr cr' d bit : Nat} (hk : k < c.length) (hl : l.length = c.length) (hd : c.drop k = l.drop k)
    (h : val B c + cr * B ^ k = val B l + val B (l.take k) + bit) (hx : d + cr' * B = 2 * c.getD k 0 + cr) :
    val B (c.set k d) + cr' * B ^ (k + 1) = val B l + val B (l.take (k + 1)) + bit := by
  have h1 := val_set (B := B) hk d
  have hkl : k < l.length := by omega
  have he : c.getD k 0 = l.getD k 0 := by
    have := congrArg (fun (m : List Nat) => m.getD 0 0) hd
    simpa [List.getD_eq_getElem?_getD] using this
  have h2 : val B (l.take (k + 1)) = val B (l.take k) + l.getD k 0 * B ^ k := by
    rw [List.take_succ_eq_append_getElem hkl, val_append, List.length_take, Nat.min_eq_left (by omega), getD_at hkl]
    simp [val, Nat.mul_comm]
  have h3 : (d + cr' * B) * B ^ k = (2 * c.getD k 0 + cr) * B ^ k := by rw [hx]
  rw [Nat.add_mul, Nat.add_mul, Nat.mul_assoc, ← Nat.pow_succ', Nat.succ_eq_add_one, Nat.two_mul, Nat.add_mul] at h3
  rw [h2, ← he]
  omega
set_option maxRecDepth 100000 in
theorem dbl_end {c : List Nat} {cr m : Nat} (hc : All 256 c) (hn : c.length = 32) (hm : m < ordL) (b : Nat) (hb : b ≤ 1) (h : val 256 c + cr * 256 ^ 32 = m + m + b) : c = digs 256 (2 * m + b) 32 := by
  have hr : cr = 0 := by
    rcases Nat.eq_zero_or_pos cr with h0 | h0
    · exact h0
    · have h1 : 1 * 256 ^ 32 ≤ cr * 256 ^ 32 := Nat.mul_le_mul_right _ h0
      have h2 : 2 * ordL < 256 ^ 32 := by decide
      omega
  subst hr
  have hv : val 256 c = 2 * m + b := by omega
  rw [← hv, ← hn, digs_val hc]

set_option maxRecDepth 100000 in
theorem oand1_shr8 (x r : Nat) (hx : x < 256) : bits .and .u8 ((x : Int) / (2 : Int) ^ r) 1 = ((x / 2 ^ r % 2 : Nat) : Int) := by
  have e : ((x : Int) / (2 : Int) ^ r) = ((x / 2 ^ r : Nat) : Int) := by rw [Int.natCast_ediv, Int.natCast_pow]; rfl
  have hle : x / 2 ^ r ≤ x := Nat.div_le_self _ _
  rw [e, show (1 : Int) = ((1 : Nat) : Int) from rfl, u8_and_nat _ _ (by omega) (by decide), nat_mask1]
set_option maxRecDepth 100000 in
theorem obit_of_bytes (l : List UInt8) (m : Nat) (h : m < 8 * l.length) : bytesNat l / 2 ^ m % 2 = (l.getD (m / 8) 0).toNat / 2 ^ (m % 8) % 2 := by
  have := bit_digit (w := 8) (l := l.map (·.toNat)) (bytes_all l) m (by decide) (by simpa using h)
  unfold bytesNat
  rw [show (256 : Nat) = 2 ^ 8 from rfl, this]
  have hj : m / 8 < l.length := by omega
  simp [hj]
set_option maxRecDepth 100000 in
theorem dbl_byte (x c : Nat) (_hx : x < 256) (hc : c ≤ 1) : bits .or .u8 ((x : Int) * 2 % 256) (c : Int) = (((2 * x + c) % 256 : Nat) : Int) := by
  rw [show ((x : Int) * 2 % 256) = ((2 * x % 256 : Nat) : Int) by omega, u8_or_nat _ _ (by omega) (by omega), nat_join 1 _ _ (by omega) (by omega)]
  omega

set_option maxRecDepth 100000 in
theorem drop_set_succ {c l : List Nat} {k d : Nat} (h : c.drop k = l.drop k) : (c.set k d).drop (k + 1) = l.drop (k + 1) := by
  have h2 : c.drop (k + 1) = l.drop (k + 1) := by rw [← List.drop_drop, ← List.drop_drop, h]
  rw [List.drop_set, if_pos (by omega), h2]
set_option maxRecDepth 100000 in
theorem range_below {w w' : World} {b : Nat} {cs : List Value} (h : w.rangeAt b 0 cs) (hb : b < w.heap.size) (hB : Below w.heap.size w w') : w'.rangeAt b 0 cs := fun j v hv => (hB.cell (p := ⟨b, 0 + j, none⟩) hb).trans (h j v hv)

set_option maxRecDepth 100000 in
theorem keepS {W1 w1 w2 : World} {b : Nat} {cs : List Value} (h : w1.rangeAt b 0 cs) (hB : Below W1.heap.size W1 w1) (hlt : b < W1.heap.size) (hb : Below w1.heap.size w1 w2) : w2.rangeAt b 0 cs ∧ Below W1.heap.size W1 w2 :=
  ⟨range_below h (Nat.lt_of_lt_of_le hlt hB.size) hb, below_to hB hb⟩

set_option maxRecDepth 100000 in
set_option maxHeartbeats 1000000 in
theorem oref_Of (s : ByteArray) (W : World) (hmax : 8 * s.size ≤ 9223372036854775807) :
    Calls Try.prog 33 #[.string s] W fun e w' => e = .returned (.agg (ints .u8 (digs 256 (bytesNat s.data.toList % ordL) 32))) ∧ Below W.heap.size W w' := by
  obtain ⟨n0, hn0⟩ : ∃ n0, bytesNat s.data.toList = n0 := ⟨_, rfl⟩
  rw [hn0]
  have HN0 := hid hn0
  clear hn0
  go_enter Try.func33, Try.ntmps33
  go_wp2_with fail
  obtain ⟨N, hN⟩ : ∃ N, N = W.heap.size := ⟨_, rfl⟩
  rw [← hN]
  have HN := hid hN
  have hz : #[.int .u8 0, .int .u8 0, .int .u8 0, .int .u8 0, .int .u8 0, .int .u8 0, .int .u8 0, .int .u8 0, .int .u8 0, .int .u8 0, .int .u8 0, .int .u8 0, .int .u8 0, .int .u8 0, .int .u8 0, .int .u8 0, .int .u8 0, .int .u8 0, .int .u8 0, .int .u8 0, .int .u8 0, .int .u8 0, .int .u8 0, .int .u8 0, .int .u8 0, .int .u8 0, .int .u8 0, .int .u8 0, .int .u8 0, .int .u8 0, .int .u8 0, .int .u8 0] = ints .u8 (List.replicate 32 0) := rfl
  rw [hz]
  go_loopw [4] (fun i wr => ∃ k : Nat, k ≤ 8 * s.size ∧ i = .int .i64 ((k : Int) - 1) ∧
    wr.heap[N + 1]? = some (.cells (ints .u8 (digs 256 (n0 / 2 ^ k % ordL) 32)) 65 (0, 0)) ∧ wr.heap[N]? = some (.cells (ints .u8 (List.replicate 32 0)) 65 (0, 0)) ∧ Below W.heap.size W wr) (fun i _ => (intOf i + 1).toNat)
  case atStart =>
    refine ⟨8 * s.size, Nat.le_refl _, by simp, ?_, alloc_old (alloc_at' hN _), below_alloc (below_new _) _⟩
    have hlt := bytesNat_lt s.data.toList
    rw [HN0.out, show s.data.toList.length = s.size from by simp, show (256 : Nat) = 2 ^ 8 from rfl, ← Nat.pow_mul] at hlt
    rw [Nat.div_eq_of_lt hlt, Nat.zero_mod]
    exact alloc_at' (by simp [hN]) _
  case round =>
    clear hN hz
    obtain ⟨k, hk, rfl, rR, rZ, rb⟩ := hrel
    have RZ := hid rZ
    have RBE := hid rb
    clear rZ rb
    match k with
    | 0 =>
      have hkd : decide (((0 : Nat) : Int) - 1 ≥ 0) = false := decide_eq_false (by omega)
      have hd0 : digs 256 (n0 / 2 ^ 0 % ordL) 32 = digs 256 (n0 % ordL) 32 := by rw [Nat.pow_zero, Nat.div_one]
      rw [hd0] at rR
      have hNle : W.heap.size ≤ N := by have := HN.out; omega
      go_upto_region 14 with (fail)
      refine wp_region_list ?_
      refine wp_load_num (l := digs 256 (n0 % ordL) 32) (by rfl) _ (by rfl) (by rfl) (by rw [digs_length]) (b := N + 1) (by exact rR) ?_
      refine wp_store_num (l := digs 256 (n0 % ordL) 32) (by rfl) _ _ (by rfl) (by rfl) (by rfl) (by rw [digs_length]) (by exact RZ.out) (by simp [ints_size]) ?_
      have RN := hid (blk_heap (o := .cells (ints .u8 (digs 256 (n0 % ordL) 32)) 65 (0, 0)) (lt_blk RZ.out))
      go_wp2_with fail
      exact bodyPost_ret (v := .agg (ints .u8 (digs 256 (n0 % ordL) 32))) (results_cell_row Try.results33 _ _ N _ _ _ _ (by rfl) RN.out Try.underlying65 rfl (by rw [info_RNum, ints_size, digs_length])) rfl ⟨rfl, below_blk' RBE.out hNle _⟩
    | m + 1 =>
      rw [show ((m + 1 : Nat) : Int) - 1 = (m : Int) from by omega]
      have hkd : decide ((m : Int) ≥ 0) = true := decide_eq_true (by omega)
      have RR := hid rR
      clear rR
      have hi0 : 0 ≤ (m : Int) / 8 := by omega
      have hi1 : (m : Int) / 8 < s.size := by omega
      have hi2 : ((m : Int) / 8).toNat = m / 8 := by omega
      have hml : m / 8 < s.size := by omega
      have hbit := obit_of_bytes s.data.toList m (by simp; omega)
      have hg : s.data.toList.getD (m / 8) 0 = s[m / 8] := by simp [hml]; rfl
      rw [HN0.out, hg] at hbit
      have hbyte := oand1_shr8 s[m / 8].toNat (m % 8) s[m / 8].toNat_lt
      rw [← hbit] at hbyte
      have HBYTE := hid hbyte
      clear hbit hg hbyte
      go_wp2_with fail
      rw [HBYTE.out]
      obtain ⟨bit, hbt⟩ : ∃ bit, n0 / 2 ^ m % 2 = bit := ⟨_, rfl⟩
      have hb1 : bit ≤ 1 := by omega
      rw [hbt]
      have HBT := hid hbt
      clear hbt HBYTE
      obtain ⟨l, hl⟩ : ∃ l, digs 256 (n0 / 2 ^ (m + 1) % ordL) 32 = l := ⟨_, rfl⟩
      have hvl := val_digs (B := 256) (n0 / 2 ^ (m + 1) % ordL) 32
      rw [Nat.mod_eq_of_lt (a := n0 / 2 ^ (m + 1) % ordL) (b := 256 ^ 32) (Nat.lt_trans (Nat.mod_lt _ (by decide)) (by decide)), hl] at hvl
      have hll : l.length = 32 := by rw [← hl, digs_length]
      have hla : All 256 l := by rw [← hl]; exact digs_all (by decide) _ _
      have rR := RR.out
      rw [hl] at rR
      have RR2 := hid rR
      have HVL := hid hvl
      have HLL := hid hll
      clear hl rR RR hvl hll
      go_loopw [6, 5] (fun i cy wq => ∃ (k cr : Nat) (c : List Nat), k ≤ 32 ∧ i = .int .i64 (k : Int) ∧ cy = .int .u8 (cr : Int) ∧ cr ≤ 1 ∧ c.length = 32 ∧ All 256 c ∧ c.drop k = l.drop k ∧ val 256 c + cr * 256 ^ k = val 256 l + val 256 (l.take k) + bit ∧
        wq.heap[N + 1]? = some (.cells (ints .u8 c) 65 (0, 0)) ∧ wq.heap[N]? = some (.cells (ints .u8 (List.replicate 32 0)) 65 (0, 0)) ∧ Below W.heap.size W wq) (fun i _ _ => (32 - intOf i).toNat)
      case atStart => exact ⟨0, bit, l, by omega, rfl, rfl, hb1, HLL.out, hla, rfl, by simp [val], RR2.out, RZ.out, RBE.out⟩
      case round =>
        obtain ⟨k, cr, c, hk, rfl, rfl, hcr, hcl, hca, hcd, hv, qR, qZ, qb⟩ := hrel
        have HV := hid hv
        have HCD := hid hcd
        have HCL := hid hcl
        have QZ := hid qZ
        have QBE := hid qb
        clear hv hcd qZ qb
        by_cases hk32 : k < 32
        · have hkd : decide ((k : Int) < 32) = true := decide_eq_true (by omega)
          have hj0 : 0 ≤ (k : Int) := by omega
          have hj1 : (k : Int) < 32 := by omega
          have cc := ints_cell qR (j := k) (by omega)
          have hx := hca.getD (j := k) (by omega)
          have hfa := free_at qR
          have QR := hid qR
          clear qR
          generalize hxa : c.getD k 0 = x at *
          have HX := hid hxa
          have hdb := dbl_byte x cr hx hcr
          have HDB := hid hdb
          clear hxa hcl hdb
          go_wp2_with fail
          rw [HDB.out]
          have hst := dbl_step (B := 256) (c := c) (l := l) (k := k) (cr := cr) (cr' := x / 128) (d := (2 * x + cr) % 256) (bit := bit) (by rw [HCL.out]; omega) (HLL.out.trans HCL.out.symm) HCD.out HV.out (by rw [HX.out]; omega)
          have hcx : ((x : Int) / 128) = ((x / 128 : Nat) : Int) := by omega
          rw [hcx]
          exact ⟨⟨k + 1, x / 128, c.set k ((2 * x + cr) % 256), by omega, by go_num, rfl, by omega, by simp [HCL.out], All.set hca _ (by omega), drop_set_succ HCD.out, hst, ints_store QR.out _ _, at_setCell_other QZ.out (by simp) _, QBE.out.setCell (by have := HN.out; simp; omega) _⟩, by simp [intOf]; omega⟩
        · have hkd : decide ((k : Int) < 32) = false := decide_eq_false (by omega)
          have hk5 : k = 32 := by omega
          have hv := HV.out
          rw [hk5, List.take_of_length_le (by rw [HLL.out]; omega), HVL.out] at hv
          have hce := dbl_end hca hcl (Nat.mod_lt _ (by decide)) bit hb1 hv
          have HCE := hid hce
          have QR := hid qR
          have hN1 : N + 1 < wr.heap.size := lt_blk qR
          have hrow := row_range qR
          have hi37 : (Try.prog.info? 65).map (·.size) = some (c.map fun (x : Nat) => Value.int .u8 (x : Int)).length := by rw [info_RNum]; simp [HCL.out]
          have hu37 := Try.underlying65
          have hl32 : (c.map fun (x : Nat) => Value.int .u8 (x : Int)).length = 32 := by simp [HCL.out]
          have hone : ∀ v ∈ (c.map fun (x : Nat) => Value.int .u8 (x : Int)), v.oneCell' = true := by
            intro v hv
            simp only [List.mem_map] at hv
            obtain ⟨x, _, rfl⟩ := hv
            rfl
          have hv2 : val 256 c = 2 * (n0 / 2 ^ (m + 1) % ordL) + bit := by
            rw [hce, val_digs]
            exact Nat.mod_eq_of_lt (by have h1 : n0 / 2 ^ (m + 1) % ordL < ordL := Nat.mod_lt _ (by decide)
                                       have h2 : 2 * ordL < 256 ^ 32 := by decide
                                       omega)
          clear hv hce hk5 qR
          go_wp2_with fail
          go_region_held3 (fun w' => w'.rangeAt (N + 1) 0 (c.map fun (x : Nat) => Value.int .u8 (x : Int)) ∧ Below wr.heap.size wr w') (first | exact ⟨by simpa using hrow, (Below.refl _ _).drew⟩ | (go_split_ands; exact keepS (by assumption) (by assumption) hN1 (by assumption)))
            (first | (go_at_call 69; refine (ref_Order _).mono ?_; rintro e w2 ⟨rfl, hb2⟩) | (go_at_call 68; refine (oref_less c _ _ hca (digs_all (by decide) _ _) (by exact HCL.out) (by rw [digs_length])).mono ?_; rintro e w3 ⟨rfl, hb3⟩))
          rename_i hH
          obtain ⟨_, hbw⟩ := hH
          clear hi37 hu37 hl32 hone hrow hb2 hb3
          have hvo : val 256 (digs 256 ordL 32) = ordL := by rw [val_digs]; decide
          rw [hvo]
          have q3 := (hbw.block _ hN1).trans QR.out
          have z3 := (hbw.block _ (lt_blk QZ.out)).trans QZ.out
          have be3 := below_to QBE.out hbw
          have hos := of_step n0 (m + 1) (by omega)
          rw [show m + 1 - 1 = m by omega, HBT.out] at hos
          have HOS := hid hos
          have Q3 := hid q3
          have Z3 := hid z3
          have BE3 := hid be3
          clear q3 z3 be3 hbw hos
          have hrl : n0 / 2 ^ (m + 1) % ordL < ordL := Nat.mod_lt _ (by decide)
          obtain ⟨R, hR⟩ : ∃ R, n0 / 2 ^ (m + 1) % ordL = R := ⟨_, rfl⟩
          rw [hR] at hrl hv2
          rw [hR]
          have HOS2 := HOS.out
          have HCE2 := HCE.out
          rw [hR] at HOS2 HCE2
          have HOS3 := hid HOS2
          have HCE3 := hid HCE2
          have HV2 := hid hv2
          clear HOS HOS2 HCE HCE2 hR hv2
          by_cases hlt : 2 * R + bit < ordL
          · have hd : (!decide (2 * R + bit < ordL)) = false := by simp [hlt]
            rw [hd]
            go_wp2_with fail
            refine ⟨⟨m, by omega, rfl, ?_, Z3.out, BE3.out⟩, by simp [intOf]⟩
            rw [← HOS3.out, Nat.mod_eq_of_lt hlt, ← HCE3.out]
            exact Q3.out
          · have hd : (!decide (2 * R + bit < ordL)) = true := by simp [hlt]
            rw [hd]
            go_wp2_with fail
            have hsum : n0 / 2 ^ m % ordL = val 256 c - val 256 (digs 256 ordL 32) := by
              rw [hvo, HV2.out, ← HOS3.out, Nat.mod_eq_sub_mod (by omega), Nat.mod_eq_of_lt (by omega)]
            have HSUM := hid hsum
            have hle : val 256 (digs 256 ordL 32) ≤ val 256 c := by rw [hvo, HV2.out]; omega
            have HLE := hid hle
            have HVO := hid hvo
            clear hsum hle hvo hlt hd
            refine wp_region_two (by rfl) (by kernel_rfl) (by kernel_rfl) (by kernel_rfl) (by kernel_rfl) ?_ ?_
            · refine wp_load_num (by rfl) _ (by rfl) (by rfl) HCL.out (b := N + 1) (by exact Q3.out) ?_
              go_wp2_with fail
              refine (ref_Order _).mono ?_
              rintro e w4 ⟨rfl, hb4⟩
              have q4 := (hb4.block (N + 1) (lt_blk Q3.out)).trans Q3.out
              have z4 := (hb4.block N (lt_blk Z3.out)).trans Z3.out
              have be4 := below_to BE3.out.drew hb4
              have Q4 := hid q4
              have Z4 := hid z4
              have BE4 := hid be4
              clear q4 z4 be4 hb4
              go_wp2_with fail
              refine (oref_minus c (digs 256 ordL 32) _ hca (digs_all (by decide) _ _) HCL.out (by rw [digs_length]) HLE.out).mono ?_
              rintro e w5 ⟨rfl, hb5⟩
              have q5 := (hb5.block (N + 1) (lt_blk Q4.out)).trans Q4.out
              have z5 := (hb5.block N (lt_blk Z4.out)).trans Z4.out
              have be5 := below_to BE4.out hb5
              have hNle : W.heap.size ≤ N + 1 := by have := HN.out; omega
              rename_i hK
              refine hK _ _ ?_
              refine wp_store_num (l := digs 256 (val 256 c - val 256 (digs 256 ordL 32)) 32) (by rfl) _ _ (by rfl) (by rfl) (by rfl) (by rw [digs_length]) (b := N + 1) (by exact q5) (by rw [ints_size, HCL.out]) ?_
              have q6 := blk_heap (o := .cells (ints .u8 (digs 256 (val 256 c - val 256 (digs 256 ordL 32)) 32)) 65 (0, 0)) (lt_blk q5)
              rw [← HSUM.out] at q6 ⊢
              have Q6 := hid q6
              have Z6 := hid ((blk_other (o := .cells (ints .u8 (digs 256 (n0 / 2 ^ m % ordL) 32)) 65 (0, 0)) (w := w5) (b := N + 1) N (by omega)).trans z5)
              have BE6 := hid (below_blk' be5 hNle (.cells (ints .u8 (digs 256 (n0 / 2 ^ m % ordL) 32)) 65 (0, 0)))
              clear q5 z5 be5 q6 hb5
              go_wp2_with fail
              exact ⟨⟨m, by omega, rfl, Q6.out, Z6.out, BE6.out⟩, by simp [intOf]⟩
            · go_wp2_with fail
              refine (ref_Order _).mono ?_
              rintro e w4 ⟨rfl, hb4⟩
              have q4 := (hb4.block (N + 1) (lt_blk Q3.out)).trans Q3.out
              have z4 := (hb4.block N (lt_blk Z3.out)).trans Z3.out
              have be4 := below_to BE3.out.drew hb4
              rename_i hK
              refine hK _ _ ?_
              refine wp_load_num (by rfl) _ (by rfl) (by rfl) HCL.out (b := N + 1) (by exact q4) ?_
              have Q4 := hid q4
              have Z4 := hid z4
              have BE4 := hid be4
              clear q4 z4 be4 hb4
              go_wp2_with fail
              refine (oref_minus c (digs 256 ordL 32) _ hca (digs_all (by decide) _ _) HCL.out (by rw [digs_length]) HLE.out).mono ?_
              rintro e w5 ⟨rfl, hb5⟩
              have q5 := (hb5.block (N + 1) (lt_blk Q4.out)).trans Q4.out
              have z5 := (hb5.block N (lt_blk Z4.out)).trans Z4.out
              have be5 := below_to BE4.out hb5
              have hNle : W.heap.size ≤ N + 1 := by have := HN.out; omega
              rename_i hK
              refine hK _ _ ?_
              refine wp_store_num (l := digs 256 (val 256 c - val 256 (digs 256 ordL 32)) 32) (by rfl) _ _ (by rfl) (by rfl) (by rfl) (by rw [digs_length]) (b := N + 1) (by exact q5) (by rw [ints_size, HCL.out]) ?_
              have q6 := blk_heap (o := .cells (ints .u8 (digs 256 (val 256 c - val 256 (digs 256 ordL 32)) 32)) 65 (0, 0)) (lt_blk q5)
              rw [← HSUM.out] at q6 ⊢
              have Q6 := hid q6
              have Z6 := hid ((blk_other (o := .cells (ints .u8 (digs 256 (n0 / 2 ^ m % ordL) 32)) 65 (0, 0)) (w := w5) (b := N + 1) N (by omega)).trans z5)
              have BE6 := hid (below_blk' be5 hNle (.cells (ints .u8 (digs 256 (n0 / 2 ^ m % ordL) 32)) 65 (0, 0)))
              clear q5 z5 be5 q6 hb5
              go_wp2_with fail
              exact ⟨⟨m, by omega, rfl, Q6.out, Z6.out, BE6.out⟩, by simp [intOf]⟩

end Go.Proofs.Ytceljjnohjnepaa
