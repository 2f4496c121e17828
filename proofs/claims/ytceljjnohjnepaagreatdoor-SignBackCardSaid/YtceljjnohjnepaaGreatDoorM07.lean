/- The walks of the numbers: raised. The walks of the numbers: Sub. A region that draws its order, in which one operation makes memory wherever it comes, one stores behind all others, and the others leave the world alone: one walk in the order of the text. -/
import Derived.Test.YtceljjnohjnepaaGreatDoorM06
import Derived.Test.YtceljjnohjnepaaGreatDoorM05
import Derived.Test.YtceljjnohjnepaaGreatDoorM03
import Derived.Test.YtceljjnohjnepaaGreatDoorM02
import Derived.Test.YtceljjnohjnepaaGreatDoorM04
import Derived.Test.YtceljjnohjnepaaGreatDoorM01
import Derived.Still
namespace Go.Proofs.YtceljjnohjnepaaGreatDoor
open Go.RowKit DG
attribute [local go_sem ↓] exl_Elem exs_Elem
                 attribute [local go_sem] ldr_Elem str_Elem
attribute [local go_sem] to_quad0

/-- A power of so many ones. -/
def onesN (a : Nat) : Nat → Nat
  | 0 => 1
  | k + 1 => mulN (mulN (onesN a k) (onesN a k)) a
/-- And of so many of these bits. -/
def bitsN (a x : Nat) (bits : List Nat) : Nat → Nat
  | 0 => x
  | k + 1 => if ((bits.getD k 0 : Nat) : Int) == 1 then mulN (mulN (bitsN a x bits k) (bitsN a x bits k)) a else mulN (bitsN a x bits k) (bitsN a x bits k)
def raisedN (a : Nat) (bits : List Nat) : Nat := bitsN a (onesN a 250) bits bits.length
set_option maxRecDepth 100000 in
theorem ones_lt {a : Nat} (ha : a < p2) (k : Nat) : onesN a k < p2 := by
  induction k with
  | zero => exact (by decide : 1 < p2)
  | succ k ih => exact mul_lt (mul_lt ih ih) ha
set_option maxRecDepth 100000 in
theorem bits_lt {a x : Nat} {bits : List Nat} (ha : a < p2) (hx : x < p2) (k : Nat) : bitsN a x bits k < p2 := by
  induction k with
  | zero => exact hx
  | succ k ih =>
    unfold bitsN
    split
    · exact mul_lt (mul_lt ih ih) ha
    · exact mul_lt ih ih
set_option maxRecDepth 100000 in
theorem raised_lt {a : Nat} {bits : List Nat} (ha : a < p2) : raisedN a bits < p2 := bits_lt ha (ones_lt ha _) _

set_option maxRecDepth 100000 in
set_option maxHeartbeats 2000000 in
theorem raised_any (a b cap : Nat) (bits : List Nat) (W : World) (ha : a < p2) (_hall : All 256 bits) (hlen : bits.length ≤ 8) (hcap : bits.length ≤ cap) (hB : W.heap[b]? = some (.cells (ints .u8 bits) 5 (0, 0))) :
    Calls Tryz.prog 81 #[.agg (quad a), .slice (some ⟨b, 0, none⟩) bits.length cap] W fun e w' => e = .returned (.agg (quad (raisedN a bits))) ∧ Below W.heap.size W w' := by
  have HBB := hid hB
  have hbW : b < W.heap.size := lt_blk hB
  have hsm := hid (fun w => small_any 1 w (by decide))
  have MU := hid (fun x y w (hx : x < p2) (hy : y < p2) => mul_any x y w hx hy)
  clear hB
  obtain ⟨len, hl⟩ : ∃ len, bits.length = len := ⟨_, rfl⟩
  rw [hl] at hlen hcap ⊢
  have HL := hid hl
  clear hl
  go_enter Tryz.func81, Tryz.ntmps81
  go_wp2_with fail
  refine (hsm.out _).mono ?_
  rintro e w1 ⟨rfl, hb1⟩
  have kA := Kept.on (kept (b := W.heap.size) (o := .cells (quad a) 54 (0, 0)) (by go_simp)) hb1
  have kR := Kept.on (kept (b := W.heap.size + 1) (o := .cells (quad 0) 54 (0, 0)) (by go_simp)) hb1
  have b1 : Hid (Below W.heap.size W w1) := below_to (by repeat (first | exact Below.refl _ _ | exact below_new _ | assumption | refine Below.drew ?_ | refine Below.drewN ?_ _ | refine below_alloc ?_ _ | refine below_blk' ?_ (by omega) _)) hb1
  clear hb1
  try clear gA lA nA mA
  obtain ⟨gA, lA, nA, mA⟩ := kA
  try clear gR lR nR mR
  obtain ⟨gR, lR, nR, mR⟩ := kR
  obtain ⟨gB, lB, nB, mB⟩ := kept (show hget w1 b = some (.cells (ints .u8 bits) 5 (0, 0)) from (b1.out.block b hbW).trans HBB.out)
  have hXW := lR
  have hbX := lB
  go_upto_region 3 with (fail)
  obtain ⟨w2, hw2⟩ : ∃ w2, w1.alloc (.cells (quad 1) 54) = w2 := ⟨_, rfl⟩
  have kA := kept (show hget w2 (W.heap.size) = some (.cells (quad a) 54 (0, 0)) by rw [← hw2]; clear hw2; go_simp)
  have kR := kept (show hget w2 (W.heap.size + 1) = some (.cells (quad 0) 54 (0, 0)) by rw [← hw2]; clear hw2; go_simp)
  have kB := kept (show hget w2 (b) = some (.cells (ints .u8 bits) 5 (0, 0)) by rw [← hw2]; clear hw2; go_simp)
  have kX := kept (show hget w2 (w1.heap.size) = some (.cells (quad 1) 54 (0, 0)) by rw [← hw2]; clear hw2; go_simp)
  have b2 : Hid (Below W.heap.size W w2) := by rw [← hw2]; repeat (first | exact Below.refl _ _ | exact below_new _ | exact b1.out | assumption | refine Below.drew ?_ | refine Below.drewN ?_ _ | refine below_alloc ?_ _ | refine below_blk' ?_ (by omega) _)
  rw [hw2]
  clear hw2
  try clear gA lA nA mA
  try clear jA
  have jA := kA.later
  obtain ⟨gA, lA, nA, mA⟩ := kA
  try clear gR lR nR mR
  try clear jR
  have jR := kR.later
  obtain ⟨gR, lR, nR, mR⟩ := kR
  try clear gB lB nB mB
  try clear jB
  have jB := kB.later
  obtain ⟨gB, lB, nB, mB⟩ := kB
  try clear gX lX nX mX
  try clear jX
  have jX := kX.later
  obtain ⟨gX, lX, nX, mX⟩ := kX
  clear b1
  generalize w1.heap.size = X at *
  have q1 : (W.heap.size = X) = False := by simp; omega
  have q2 : (W.heap.size + 1 = X) = False := by simp; omega
  have q3 : (b = X) = False := by simp; omega
  have hWX : W.heap.size ≤ X := by omega
  have b2' := b2
  go_loopw [9] (fun i wr => ∃ k : Nat, k ≤ 250 ∧ i = .int .i64 (k : Int) ∧ hget wr X = some (.cells (quad (onesN a k)) 54 (0, 0)) ∧ hget wr (W.heap.size) = some (.cells (quad a) 54 (0, 0)) ∧ hget wr (W.heap.size + 1) = some (.cells (quad 0) 54 (0, 0)) ∧ hget wr b = some (.cells (ints .u8 bits) 5 (0, 0)) ∧ Hid (Below W.heap.size W wr)) (fun i _ => (250 - intOf i).toNat)
  case atStart => exact ⟨0, by omega, rfl, gX, gA, gR, gB, b2'⟩
  case round =>
    clear gX gA gR gB jX jA jR jB lX lA lR lB nX nA nR nB mX mA mR mB b2 b2'
    obtain ⟨k, hk, rfl, qX, qA, qR, qB, qb⟩ := hrel
    obtain ⟨gX, lX, nX, mX⟩ := kept qX
    obtain ⟨gA, lA, nA, mA⟩ := kept qA
    obtain ⟨gR, lR, nR, mR⟩ := kept qR
    obtain ⟨gB, lB, nB, mB⟩ := kept qB
    have jX := (kept qX).later
    have jA := (kept qA).later
    have jR := (kept qR).later
    have jB := (kept qB).later
    clear qX qA qR qB
    by_cases hk250 : k < 250
    · have hkd : decide ((k : Int) < 250) = true := decide_eq_true (by omega)
      obtain ⟨x, hx⟩ : ∃ x, onesN a k = x := ⟨_, rfl⟩
      have hx2 := ones_lt ha k
      have hst : onesN a (k + 1) = mulN (mulN (onesN a k) (onesN a k)) a := rfl
      rw [hx] at hx2 jX gX hst
      have hxx := mul_lt hx2 hx2
      obtain ⟨y, hy⟩ : ∃ y, mulN x x = y := ⟨_, rfl⟩
      have m1' := fun w => MU.out x x w hx2 hx2
      rw [hy] at hxx hst
      simp only [hy] at m1'
      have m2' := fun w => MU.out y a w hxx ha
      rw [← hst]  at m2'
      have m1 := hid m1'
      have m2 := hid m2'
      have HST := hid hst
      obtain ⟨z, hz⟩ : ∃ z, onesN a (k + 1) = z := ⟨_, rfl⟩
      have HST' := hid hz
      rw [hz] at m2
      clear hx m1' m2' hst hy hz HST
      go_wp2_with fail
      refine wp_region_later_tail 5 (by kernel_rfl) (by kernel_rfl) ?_
      simp only [List.take_succ_cons, List.take_zero, List.drop_succ_cons, List.drop_zero]
      repeat ((go_big_quiet_step ((go_at_call 48; first | with_reducible exact calls_later (m1.out _) | with_reducible exact calls_later (m2.out _)))))
      refine wpQuiet_nil ?_
      intro wL hwL
      obtain ⟨⟨w8, hL⟩, e8⟩ := hwL
      change wL = w8 at e8
      subst e8
      obtain ⟨gX, lX, nX, mX⟩ := kept (jX ⟨_, hL⟩)
      obtain ⟨gA, lA, nA, mA⟩ := kept (jA ⟨_, hL⟩)
      obtain ⟨gR, lR, nR, mR⟩ := kept (jR ⟨_, hL⟩)
      obtain ⟨gB, lB, nB, mB⟩ := kept (jB ⟨_, hL⟩)
      go_wp2_with fail
      have bz := below_blk' (below_to qb.out hL) hWX (.cells (quad z) 54 (0, 0))
      exact ⟨⟨k + 1, by omega, by go_num, by rw [HST'.out]; go_simp, by go_simp, by go_simp, by go_simp, bz⟩, by simp [intOf]; omega⟩
    · have hkd : decide ((k : Int) < 250) = false := decide_eq_false (by omega)
      have hk5 : k = 250 := by omega
      have hx2 := ones_lt ha k
      rw [hk5] at gX hx2
      obtain ⟨x, hx⟩ : ∃ x, onesN a 250 = x := ⟨_, rfl⟩
      rw [hx] at gX hx2
      have HX := hid hx
      clear hx jX jA jR jB hk5
      go_upto_region 7 with (fail)
      go_loopw [19] (fun i wr => ∃ k : Nat, k ≤ len ∧ i = .int .i64 (k : Int) ∧ hget wr X = some (.cells (quad (bitsN a x bits k)) 54 (0, 0)) ∧ hget wr (W.heap.size) = some (.cells (quad a) 54 (0, 0)) ∧ hget wr (W.heap.size + 1) = some (.cells (quad 0) 54 (0, 0)) ∧ hget wr b = some (.cells (ints .u8 bits) 5 (0, 0)) ∧ Hid (Below W.heap.size W wr)) (fun i _ => (len - intOf i).toNat)
      case atStart => exact ⟨0, by omega, rfl, gX, gA, gR, gB, qb⟩
      case round =>
        clear gX gA gR gB lX lA lR lB nX nA nR nB mX mA mR mB qb
        obtain ⟨k, hk, rfl, qX, qA, qR, qB, qb⟩ := hrel
        obtain ⟨gX, lX, nX, mX⟩ := kept qX
        obtain ⟨gA, lA, nA, mA⟩ := kept qA
        obtain ⟨gR, lR, nR, mR⟩ := kept qR
        obtain ⟨gB, lB, nB, mB⟩ := kept qB
        have jX := (kept qX).later
        have jA := (kept qA).later
        have jR := (kept qR).later
        have jB := (kept qB).later
        by_cases hkl : k < len
        · have hkd : decide ((k : Int) < len) = true := decide_eq_true (by omega)
          have hi3 : (k : Int) < len := by omega
          have hkl' : (k : Int) < cap := by omega
          have cb := ints_cell (show wr.heap[b]? = some (.cells (ints .u8 bits) 5 (0, 0)) from qB) (j := k) (by rw [HL.out]; exact hkl)
          obtain ⟨y, hy⟩ : ∃ y, bitsN a x bits k = y := ⟨_, rfl⟩
          have hy2 : bitsN a x bits k < p2 := bits_lt ha hx2 k
          have hst : bitsN a x bits (k + 1) = if ((bits.getD k 0 : Nat) : Int) == 1 then mulN (mulN (bitsN a x bits k) (bitsN a x bits k)) a else mulN (bitsN a x bits k) (bitsN a x bits k) := rfl
          rw [hy] at hy2 qX hst gX
          have hyy := mul_lt hy2 hy2
          have hya := mul_lt hyy ha
          obtain ⟨v, hv⟩ : ∃ v, mulN y y = v := ⟨_, rfl⟩
          obtain ⟨u, hu⟩ : ∃ u, mulN v a = u := ⟨_, rfl⟩
          obtain ⟨t, ht⟩ : ∃ t, bits.getD k 0 = t := ⟨_, rfl⟩
          have m1' := fun w => MU.out y y w hy2 hy2
          rw [hv] at hyy hst hya
          simp only [hv] at m1'
          have m2' := fun w => MU.out v a w hyy ha
          rw [hu] at hst hya
          simp only [hu] at m2'
          rw [ht] at cb hst
          have m3' := fun w => select_any ((t : Int) == 1) v u w hyy hya
          rw [← hst] at m3'
          have m1 := hid m1'
          have m2 := hid m2'
          have m3 := hid m3'
          obtain ⟨z, hz⟩ : ∃ z, bitsN a x bits (k + 1) = z := ⟨_, rfl⟩
          have HZ := hid hz
          rw [hz] at m3
          clear jX jA jR jB m1' m2' m3' hst hv hu ht hy hz qX qA qR qB
          go_wp2_with fail
          refine (m1.out _).mono ?_
          rintro e w3 ⟨rfl, hb3⟩
          have kA := Kept.on (kept (b := W.heap.size) (o := .cells (quad a) 54 (0, 0)) (by go_simp)) hb3
          have kR := Kept.on (kept (b := W.heap.size + 1) (o := .cells (quad 0) 54 (0, 0)) (by go_simp)) hb3
          have kB := Kept.on (kept (b := b) (o := .cells (ints .u8 bits) 5 (0, 0)) (by go_simp)) hb3
          have kX := Kept.on (kept (b := X) (o := .cells (quad y) 54 (0, 0)) (by go_simp)) hb3
          have b3 : Hid (Below W.heap.size W w3) := below_to (by repeat (first | exact Below.refl _ _ | exact below_new _ | exact qb.out | assumption | refine Below.drew ?_ | refine Below.drewN ?_ _ | refine below_alloc ?_ _ | refine below_blk' ?_ (by omega) _)) hb3
          clear hb3
          try clear gA lA nA mA
          obtain ⟨gA, lA, nA, mA⟩ := kA
          try clear gR lR nR mR
          obtain ⟨gR, lR, nR, mR⟩ := kR
          try clear gB lB nB mB
          obtain ⟨gB, lB, nB, mB⟩ := kB
          try clear gX lX nX mX
          obtain ⟨gX, lX, nX, mX⟩ := kX
          clear qb
          clear cb
          go_wp2_with fail
          obtain ⟨w4, hw4⟩ : ∃ w4, blk w3 X (.cells (quad v) 54 (0, 0)) = w4 := ⟨_, rfl⟩
          have kA := kept (show hget w4 (W.heap.size) = some (.cells (quad a) 54 (0, 0)) by rw [← hw4]; clear hw4; go_simp)
          have kR := kept (show hget w4 (W.heap.size + 1) = some (.cells (quad 0) 54 (0, 0)) by rw [← hw4]; clear hw4; go_simp)
          have kB := kept (show hget w4 (b) = some (.cells (ints .u8 bits) 5 (0, 0)) by rw [← hw4]; clear hw4; go_simp)
          have kX := kept (show hget w4 (X) = some (.cells (quad v) 54 (0, 0)) by rw [← hw4]; clear hw4; go_simp)
          have b4 : Hid (Below W.heap.size W w4) := by rw [← hw4]; repeat (first | exact Below.refl _ _ | exact below_new _ | exact b3.out | assumption | refine Below.drew ?_ | refine Below.drewN ?_ _ | refine below_alloc ?_ _ | refine below_blk' ?_ (by omega) _)
          rw [hw4]
          clear hw4
          try clear gA lA nA mA
          try clear jA
          have jA := kA.later
          obtain ⟨gA, lA, nA, mA⟩ := kA
          try clear gR lR nR mR
          try clear jR
          have jR := kR.later
          obtain ⟨gR, lR, nR, mR⟩ := kR
          try clear gB lB nB mB
          try clear jB
          have jB := kB.later
          obtain ⟨gB, lB, nB, mB⟩ := kB
          try clear gX lX nX mX
          try clear jX
          have jX := kX.later
          obtain ⟨gX, lX, nX, mX⟩ := kX
          clear b3
          refine wp_region_later_tail 7 (by kernel_rfl) (by kernel_rfl) ?_
          simp only [List.take_succ_cons, List.take_zero, List.drop_succ_cons, List.drop_zero]
          repeat ((go_big_quiet_step ((first | (go_at_call 48; with_reducible exact calls_later (m2.out _)) | (go_at_call 90; with_reducible exact calls_later (m3.out _))))))
          refine wpQuiet_nil ?_
          intro wL hwL
          obtain ⟨⟨w8, hL⟩, e8⟩ := hwL
          change wL = w8 at e8
          subst e8
          obtain ⟨gX, lX, nX, mX⟩ := kept (jX ⟨_, hL⟩)
          obtain ⟨gA, lA, nA, mA⟩ := kept (jA ⟨_, hL⟩)
          obtain ⟨gR, lR, nR, mR⟩ := kept (jR ⟨_, hL⟩)
          obtain ⟨gB, lB, nB, mB⟩ := kept (jB ⟨_, hL⟩)
          go_wp2_with fail
          have bz := below_blk' (below_to b4.out hL) hWX (.cells (quad z) 54 (0, 0))
          exact ⟨⟨k + 1, by omega, by go_num, by rw [HZ.out]; go_simp, by go_simp, by go_simp, by go_simp, bz⟩, by simp [intOf]; omega⟩
        · have hkd : decide ((k : Int) < len) = false := decide_eq_false (by omega)
          have hk5 : k = len := by omega
          have hfin : bitsN a x bits k = raisedN a bits := by unfold raisedN; rw [hk5, HL.out, HX.out]
          rw [hfin] at gX
          generalize hr : raisedN a bits = r at *
          have HR := hid hr
          clear hr hfin jX jA jR jB qX qA qR qB
          go_wp2_with fail
          refine bodyPost_ret (v := .agg (quad r)) (results_cell_row Tryz.results81 _ _ (W.heap.size + 1) 54 (quad r) (0, 0) _ (by rfl) (by rw [← hget_eq]; go_simp) Tryz.underlying54 rfl (by rw [info_Elem]; go_simp)) rfl ?_
          exact ⟨by rw [HR.out], by repeat (first | exact Below.refl _ _ | exact below_new _ | exact qb.out | assumption | refine Below.drew ?_ | refine Below.drewN ?_ _ | refine below_alloc ?_ _ | refine below_blk' ?_ (by omega) _)⟩

end Go.Proofs.YtceljjnohjnepaaGreatDoor

namespace Go.Proofs.YtceljjnohjnepaaGreatDoor
open Go.RowKit DG
attribute [local go_sem ↓] exl_Elem exs_Elem
                 attribute [local go_sem] ldr_Elem str_Elem
attribute [local go_sem] to_quad0

set_option maxRecDepth 100000 in
theorem sub64_any (x y c : Int) (hx : 0 ≤ x ∧ x < 18446744073709551616) (hy : 0 ≤ y ∧ y < 18446744073709551616) (hc : 0 ≤ c ∧ c ≤ 1) : ∃ d e : Int,
    (∀ w, (callFunc 89 #[.int .u64 x, .int .u64 y, .int .u64 c]).run Tryz.prog w = .ok (.value (.tuple #[.int .u64 d, .int .u64 e])) w) ∧
    0 ≤ d ∧ d < 18446744073709551616 ∧ 0 ≤ e ∧ e ≤ 1 ∧ d + y + c ≤ x + 18446744073709551616 * e ∧ x + 18446744073709551616 * e ≤ d + y + c :=
  ⟨_, _, fun w => call_sub64 x y c hx.1 hy hc.1 hc.2 w, by omega, by omega, by split <;> omega, by split <;> omega, by split <;> omega, by split <;> omega⟩

set_option maxRecDepth 100000 in
theorem sub4 {a0 a1 a2 a3 b0 b1 b2 b3 d0 d1 d2 d3 e0 e1 e2 e3 : Int} (h0 : d0 + b0 + 0 = a0 + 18446744073709551616 * e0) (h1 : d1 + b1 + e0 = a1 + 18446744073709551616 * e1)
    (h2 : d2 + b2 + e1 = a2 + 18446744073709551616 * e2) (h3 : d3 + b3 + e2 = a3 + 18446744073709551616 * e3) : (d0 + 18446744073709551616 * d1 + 340282366920938463463374607431768211456 * d2 + 6277101735386680763835789423207666416102355444464034512896 * d3) + (b0 + 18446744073709551616 * b1 + 340282366920938463463374607431768211456 * b2 + 6277101735386680763835789423207666416102355444464034512896 * b3) = (a0 + 18446744073709551616 * a1 + 340282366920938463463374607431768211456 * a2 + 6277101735386680763835789423207666416102355444464034512896 * a3) + 115792089237316195423570985008687907853269984665640564039457584007913129639936 * e3 := by omega
set_option maxRecDepth 100000 in
theorem sub4s {n d0 d1 d2 d3 f0 f1 f2 f3 g0 g1 g2 g3 : Int} (h0 : f0 + n + 0 = d0 + 18446744073709551616 * g0) (h1 : f1 + g0 + 0 = d1 + 18446744073709551616 * g1)
    (h2 : f2 + g1 + 0 = d2 + 18446744073709551616 * g2) (h3 : f3 + g2 + 0 = d3 + 18446744073709551616 * g3) : (f0 + 18446744073709551616 * f1 + 340282366920938463463374607431768211456 * f2 + 6277101735386680763835789423207666416102355444464034512896 * f3) + n = (d0 + 18446744073709551616 * d1 + 340282366920938463463374607431768211456 * d2 + 6277101735386680763835789423207666416102355444464034512896 * d3) + 115792089237316195423570985008687907853269984665640564039457584007913129639936 * g3 := by omega
set_option maxRecDepth 100000 in
theorem sub_fin {a b : Nat} {D e F g : Int} (ha : a < p2) (hb : b < p2) (h1 : D + b = a + 115792089237316195423570985008687907853269984665640564039457584007913129639936 * e) (h2 : F + 38 * e = D + 115792089237316195423570985008687907853269984665640564039457584007913129639936 * g) (D0 : 0 ≤ D) (D1 : D < 115792089237316195423570985008687907853269984665640564039457584007913129639936) (F0 : 0 ≤ F) (F1 : F < 115792089237316195423570985008687907853269984665640564039457584007913129639936)
    (e0 : 0 ≤ e) (e1 : e ≤ 1) (g0 : 0 ≤ g) (g1 : g ≤ 1) : 38 * g ≤ F ∧ F - 38 * g = ((subN a b : Nat) : Int) := by
  have he : (if a < b then 1 else 0 : Nat) = e.toNat := by split <;> (unfold p2 at *; omega)
  have ht : (a + p2 - b) % p2 = D.toNat := by
    unfold p2 at *
    omega
  unfold subN
  rw [he, ht]
  have hg : (if D.toNat < 38 * e.toNat then 1 else 0 : Nat) = g.toNat := by split <;> omega
  rw [hg]
  have hF : (D.toNat + p2 - 38 * e.toNat) % p2 = F.toNat := by
    unfold p2 at *
    omega
  rw [hF]
  clear hF hg ht he
  omega
set_option maxRecDepth 100000 in
theorem sub_law {a b : Nat} {a0 a1 a2 a3 b0 b1 b2 b3 d0 d1 d2 d3 e3 f0 f1 f2 f3 g3 : Int} (ha : a < p2) (hb : b < p2) (HA : W4 a a0 a1 a2 a3) (HB : W4 b b0 b1 b2 b3)
    (da : 0 ≤ d0 ∧ 0 ≤ d1 ∧ 0 ≤ d2 ∧ 0 ≤ d3) (db : d0 < 18446744073709551616 ∧ d1 < 18446744073709551616 ∧ d2 < 18446744073709551616 ∧ d3 < 18446744073709551616) (ea3 : 0 ≤ e3) (eb3 : e3 ≤ 1)
    (fa : 0 ≤ f0 ∧ 0 ≤ f1 ∧ 0 ≤ f2 ∧ 0 ≤ f3) (fb : f0 < 18446744073709551616 ∧ f1 < 18446744073709551616 ∧ f2 < 18446744073709551616 ∧ f3 < 18446744073709551616) (ga3 : 0 ≤ g3) (gb3 : g3 ≤ 1)
    (h : (d0 + 18446744073709551616 * d1 + 340282366920938463463374607431768211456 * d2 + 6277101735386680763835789423207666416102355444464034512896 * d3) + (b0 + 18446744073709551616 * b1 + 340282366920938463463374607431768211456 * b2 + 6277101735386680763835789423207666416102355444464034512896 * b3) = (a0 + 18446744073709551616 * a1 + 340282366920938463463374607431768211456 * a2 + 6277101735386680763835789423207666416102355444464034512896 * a3) + 115792089237316195423570985008687907853269984665640564039457584007913129639936 * e3) (k : (f0 + 18446744073709551616 * f1 + 340282366920938463463374607431768211456 * f2 + 6277101735386680763835789423207666416102355444464034512896 * f3) + 38 * e3 = (d0 + 18446744073709551616 * d1 + 340282366920938463463374607431768211456 * d2 + 6277101735386680763835789423207666416102355444464034512896 * d3) + 115792089237316195423570985008687907853269984665640564039457584007913129639936 * g3) :
    0 ≤ f0 - 38 * g3 ∧ f0 - 38 * g3 < 18446744073709551616 ∧ W4 (subN a b) (f0 - 38 * g3) f1 f2 f3 := by
  have hD := four_lt da.1 da.2.1 da.2.2.1 da.2.2.2 db.1 db.2.1 db.2.2.1 db.2.2.2
  have hF := four_lt fa.1 fa.2.1 fa.2.2.1 fa.2.2.2 fb.1 fb.2.1 fb.2.2.1 fb.2.2.2
  rw [HA.eq, HB.eq] at h
  obtain ⟨r1, r2⟩ := sub_fin ha hb h k hD.1 hD.2 hF.1 hF.2 ea3 eb3 ga3 gb3
  clear h
  have hf : 38 * g3 ≤ f0 := by
    obtain h | h : g3 = 0 ∨ g3 = 1 := by omega
    · omega
    · subst h
      clear r1 r2 HA HB ha hb
      omega
  exact ⟨by omega, by omega, w4_of ⟨by omega, by omega⟩ ⟨fa.2.1, fb.2.1⟩ ⟨fa.2.2.1, fb.2.2.1⟩ ⟨fa.2.2.2, fb.2.2.2⟩ (by omega)⟩

set_option maxRecDepth 100000 in
set_option maxHeartbeats 2000000 in
theorem sub_any (a b : Nat) (W : World) (ha : a < p2) (hb : b < p2) : Calls Tryz.prog 61 #[.agg (quad a), .agg (quad b)] W fun e w' => e = .returned (.agg (quad (subN a b))) ∧ Below W.heap.size W w' := by
  obtain ⟨a0, a1, a2, a3, hq, hw4⟩ := quad_w4 a ha
  have HA := hid hw4
  obtain ⟨h0, h1, h2, h3, h0', h1', h2', h3', _⟩ := hw4
  obtain ⟨b0, b1, b2, b3, hqb, hw4⟩ := quad_w4 b hb
  have HB := hid hw4
  obtain ⟨g0, g1, g2, g3, g0', g1', g2', g3', _⟩ := hw4
  rw [hq, hqb]
  clear hq hqb
  obtain ⟨r, hr⟩ : ∃ r, subN a b = r := ⟨_, rfl⟩
  rw [hr]
  have HR := hid hr
  clear hr
  go_enter Tryz.func61, Tryz.ntmps61
  go_wp2_with fail
  refine wp_loop_rounds 5 ?_
  rw [rounds_succ]
  obtain ⟨d0, e0, hr0, da0, db0, ea0, eb0, pa0, pb0⟩ := sub64_any a0 b0 0 (by omega) (by omega) (by omega)
  go_wp2_with fail
  refine wp_region_stf 13 (fun w => w.setCell ⟨W.heap.size, 0, none⟩ (.int .u64 d0)) (by kernel_rfl) (by kernel_rfl) (by decide) ?_
  repeat (first | (refine wpStf_quiet (by decide) (by rfl) (fun K hK => ?_); go_simp; refine hK _ ?_; clear hK K; try go_ints) | (refine wpStf_store (by rfl) (by rfl) (fun K hK => ?_); go_simp; refine hK _ ?_; clear hK K; try go_ints) | (refine wpStf_free (by decide) (fun K hK => ?_); go_simp; refine hK _ ?_; clear hK K; try go_ints))
  refine wpStf_nil ?_
  go_wp2_with fail
  clear hr0
  rw [rounds_succ]
  obtain ⟨d1, e1, hr1, da1, db1, ea1, eb1, pa1, pb1⟩ := sub64_any a1 b1 e0 (by omega) (by omega) (by omega)
  go_wp2_with fail
  refine wp_region_stf 13 (fun w => w.setCell ⟨W.heap.size, 1, none⟩ (.int .u64 d1)) (by kernel_rfl) (by kernel_rfl) (by decide) ?_
  repeat (first | (refine wpStf_quiet (by decide) (by rfl) (fun K hK => ?_); go_simp; refine hK _ ?_; clear hK K; try go_ints) | (refine wpStf_store (by rfl) (by rfl) (fun K hK => ?_); go_simp; refine hK _ ?_; clear hK K; try go_ints) | (refine wpStf_free (by decide) (fun K hK => ?_); go_simp; refine hK _ ?_; clear hK K; try go_ints))
  refine wpStf_nil ?_
  go_wp2_with fail
  clear hr1
  rw [rounds_succ]
  obtain ⟨d2, e2, hr2, da2, db2, ea2, eb2, pa2, pb2⟩ := sub64_any a2 b2 e1 (by omega) (by omega) (by omega)
  go_wp2_with fail
  refine wp_region_stf 13 (fun w => w.setCell ⟨W.heap.size, 2, none⟩ (.int .u64 d2)) (by kernel_rfl) (by kernel_rfl) (by decide) ?_
  repeat (first | (refine wpStf_quiet (by decide) (by rfl) (fun K hK => ?_); go_simp; refine hK _ ?_; clear hK K; try go_ints) | (refine wpStf_store (by rfl) (by rfl) (fun K hK => ?_); go_simp; refine hK _ ?_; clear hK K; try go_ints) | (refine wpStf_free (by decide) (fun K hK => ?_); go_simp; refine hK _ ?_; clear hK K; try go_ints))
  refine wpStf_nil ?_
  go_wp2_with fail
  clear hr2
  rw [rounds_succ]
  obtain ⟨d3, e3, hr3, da3, db3, ea3, eb3, pa3, pb3⟩ := sub64_any a3 b3 e2 (by omega) (by omega) (by omega)
  go_wp2_with fail
  refine wp_region_stf 13 (fun w => w.setCell ⟨W.heap.size, 3, none⟩ (.int .u64 d3)) (by kernel_rfl) (by kernel_rfl) (by decide) ?_
  repeat (first | (refine wpStf_quiet (by decide) (by rfl) (fun K hK => ?_); go_simp; refine hK _ ?_; clear hK K; try go_ints) | (refine wpStf_store (by rfl) (by rfl) (fun K hK => ?_); go_simp; refine hK _ ?_; clear hK K; try go_ints) | (refine wpStf_free (by decide) (fun K hK => ?_); go_simp; refine hK _ ?_; clear hK K; try go_ints))
  refine wpStf_nil ?_
  go_wp2_with fail
  clear hr3
  rw [rounds_succ]
  go_wp2_with fail
  have HS := hid (sub4 (a0 := a0) (a1 := a1) (a2 := a2) (a3 := a3) (b0 := b0) (b1 := b1) (b2 := b2) (b3 := b3) (d0 := d0) (d1 := d1) (d2 := d2) (d3 := d3) (e0 := e0) (e1 := e1) (e2 := e2) (e3 := e3) (by omega) (by omega) (by omega) (by omega))
  clear h0 h1 h2 h3 h0' h1' h2' h3' g0 g1 g2 g3 g0' g1' g2' g3' pa0 pb0 pa1 pb1 pa2 pb2 pa3 pb3 ea0 ea1 ea2 eb0 eb1 eb2
  refine wp_loop_rounds 5 ?_
  rw [rounds_succ]
  obtain ⟨f0, g0, hr0, fa0, fb0, ga0, gb0, qa0, qb0⟩ := sub64_any d0 (38 * e3) 0 (by omega) (by omega) (by omega)
  go_wp2_with fail
  clear hr0
  rw [rounds_succ]
  obtain ⟨f1, g1, hr1, fa1, fb1, ga1, gb1, qa1, qb1⟩ := sub64_any d1 g0 0 (by omega) (by omega) (by omega)
  go_wp2_with fail
  clear hr1
  rw [rounds_succ]
  obtain ⟨f2, g2, hr2, fa2, fb2, ga2, gb2, qa2, qb2⟩ := sub64_any d2 g1 0 (by omega) (by omega) (by omega)
  go_wp2_with fail
  clear hr2
  rw [rounds_succ]
  obtain ⟨f3, g3, hr3, fa3, fb3, ga3, gb3, qa3, qb3⟩ := sub64_any d3 g2 0 (by omega) (by omega) (by omega)
  go_wp2_with fail
  clear hr3
  have HT := hid (sub4s (n := 38 * e3) (d0 := d0) (d1 := d1) (d2 := d2) (d3 := d3) (f0 := f0) (f1 := f1) (f2 := f2) (f3 := f3) (g0 := g0) (g1 := g1) (g2 := g2) (g3 := g3) (by omega) (by omega) (by omega) (by omega))
  obtain ⟨z1, z2, Z⟩ := sub_law ha hb HA.out HB.out ⟨da0, da1, da2, da3⟩ ⟨db0, db1, db2, db3⟩ ea3 eb3 ⟨fa0, fa1, fa2, fa3⟩ ⟨fb0, fb1, fb2, fb3⟩ ga3 gb3 HS.out HT.out
  rw [HR.out] at Z
  have HZ := hid Z
  clear Z qa0 qb0 qa1 qb1 qa2 qb2 qa3 qb3
  rw [rounds_succ]
  go_wp2_with fail
  refine bodyPost_ret (v := .agg (#[.int .u64 (f0 - 38 * g3), .int .u64 f1, .int .u64 f2, .int .u64 f3])) (results_cell_row Tryz.results61 _ _ (W.heap.size + 1 + 1) 54 (#[.int .u64 (f0 - 38 * g3), .int .u64 f1, .int .u64 f2, .int .u64 f3]) (0, 0) _ (by rfl) (by rw [← hget_eq]; go_simp) Tryz.underlying54 rfl (by rw [info_Elem]; go_simp)) rfl ?_
  refine ⟨by rw [HZ.out.quad], ?_⟩
  repeat (first | exact Below.refl _ _ | exact below_new _ | assumption | refine Below.drew ?_ | refine Below.drewN ?_ _ | refine below_alloc ?_ _ | refine below_blk' ?_ (by omega) _)

end Go.Proofs.YtceljjnohjnepaaGreatDoor

namespace Go.Proofs.YtceljjnohjnepaaGreatDoor
open Go Go.RowKit

section
variable {P : Program} {ops : Array Oper} {md : Region.Mode} {k s : Nat} {w0 w1 w2 : World}

/-- From one world into another one, with this value. -/
def goesTo (P : Program) (w w' : World) (v : Value) : Result Next → Prop
  | .ok (.value u) x => x = w' ∧ u = v
  | .ok .skip x => x = w' ∧ v = undef
  | .ok (.enter f args) x => x = w ∧ w' = w ∧ Calls P f args w (fun e w'' => e = .returned v ∧ w'' = w)
  | _ => False
/-- What is asked of the operation of this number. -/
def Asked (P : Program) (k s : Nat) (w0 w1 w2 : World) (i : Nat) (e : Sem Next) (v : Value) : Prop :=
  if i = k then goesTo P w0 w1 v (e.run P w0) else if i = s then goesTo P w1 w2 v (e.run P w1)
  else goesTo P w0 w0 v (e.run P w0) ∧ goesTo P w1 w1 v (e.run P w1) ∧ goesTo P w2 w2 v (e.run P w2)
def Does (P : Program) (ops : Array Oper) (k s : Nat) (w0 w1 w2 : World) (i : Nat) (o : Oper) (v : Value) (a : Act) : Prop :=
  (Region.wanted o (yielded ops a.tmps) = true ∧ Asked P k s w0 w1 w2 i (execOp a.eval o) v) ∨ (Region.wanted o (yielded ops a.tmps) = false ∧ v = undef ∧ i ≠ k ∧ i ≠ s)
/-- The walk in the order of the text. -/
def wpFlt (P : Program) (ops : Array Oper) (k s : Nat) (w0 w1 w2 : World) (Q : Act → Prop) : Nat → List Oper → Act → Prop
  | _, [], a => Q a
  | i, o :: rest, a => ∃ v, Does P ops k s w0 w1 w2 i o v a ∧ wpFlt P ops k s w0 w1 w2 Q (i + 1) rest (a.put o.dst v)
def fOp (P : Program) (ops : Array Oper) (k s : Nat) (w0 w1 w2 : World) (i : Nat) (K : Act → Prop) (a : Act) : Prop :=
  match ops[i]? with
  | none => K a
  | some o => ∃ v, Does P ops k s w0 w1 w2 i o v a ∧ K (a.put o.dst v)
set_option maxRecDepth 100000 in
theorem fOp_mono {i : Nat} {a : Act} {K K' : Act → Prop} (h : ∀ a, K a → K' a) (hh : fOp P ops k s w0 w1 w2 i K a) : fOp P ops k s w0 w1 w2 i K' a := by
  unfold fOp at *
  split
  · exact h _ (by simpa [*] using hh)
  · rename_i o ho
    simp only [ho] at hh
    obtain ⟨v, h1, h2⟩ := hh
    exact ⟨v, h1, h _ h2⟩
def wpAnyF (P : Program) (md : Region.Mode) (ops : Array Oper) (k s : Nat) (w0 w1 w2 : World) (Q : Array Bool → Act → Prop) : Nat → Array Bool → Act → Prop
  | 0, listed, a => Region.ready md ops listed = [] ∧ Q listed a
  | fuel + 1, listed, a =>
    (Region.ready md ops listed = [] → Q listed a) ∧
    ∀ i ∈ Region.ready md ops listed, fOp P ops k s w0 w1 w2 i (wpAnyF P md ops k s w0 w1 w2 Q fuel (listed.setIfInBounds i true)) a
set_option maxRecDepth 100000 in
theorem Does.of_same {i : Nat} {o : Oper} {v : Value} {a a' : Act} (hy : Does P ops k s w0 w1 w2 i o v a) (he : execOp a'.eval o = execOp a.eval o)
    (hw : Region.wanted o (yielded ops a'.tmps) = Region.wanted o (yielded ops a.tmps)) : Does P ops k s w0 w1 w2 i o v a' := by
  unfold Does at *
  rw [he, hw]
  exact hy
set_option maxRecDepth 100000 in
theorem fOp_put {i j : Nat} {oi oj : Oper} {v : Value} (hj : ops[j]? = some oj) (hap : oi.apart ops oj = true)
    (hsi : ∀ cs b, oi.op ≠ .select cs b) (hsj : ∀ cs b, oj.op ≠ .select cs b) {K : Act → Prop} {a : Act}
    (hy : Does P ops k s w0 w1 w2 i oi v a) (h : fOp P ops k s w0 w1 w2 j K (a.put oi.dst v)) :
    fOp P ops k s w0 w1 w2 j (fun a' => Does P ops k s w0 w1 w2 i oi v a' ∧ K (a'.put oi.dst v)) a := by
  obtain ⟨h1, h2, h3⟩ := Oper.apart_spec hap
  unfold fOp at *
  simp only [hj] at *
  obtain ⟨u, hu, hn⟩ := h
  refine ⟨u, hu.of_same (execOp_put oj hsj a oi.dst v h1).symm (wanted_put oj a oi.dst v h1).symm, hy.of_same (execOp_put oi hsi a oj.dst u h3) (wanted_put oi a oj.dst u h3), ?_⟩
  rw [← Act.put_comm a v u h2]
  exact hn
set_option maxRecDepth 100000 in
theorem wpAnyF_first {Q : Array Bool → Act → Prop} {i : Nat} {oi : Oper} {v : Value} (hi : ops[i]? = some oi) (hsel : ∀ (j : Nat) (o : Oper) cs b, ops[j]? = some o → o.op ≠ .select cs b) :
    ∀ (fuel : Nat) (listed : Array Bool) (a : Act),
      (∀ j oj, ops[j]? = some oj → j ≠ i → listed.getD j true = false → (∀ e ∈ oj.after, Region.binds md e = true → e.on ≠ i) → oi.apart ops oj = true) →
      i ∈ Region.ready md ops listed → Does P ops k s w0 w1 w2 i oi v a →
      wpAnyF P md ops k s w0 w1 w2 Q fuel (listed.setIfInBounds i true) (a.put oi.dst v) → wpAnyF P md ops k s w0 w1 w2 Q (fuel + 1) listed a := by
  intro fuel
  have take : ∀ {K : Act → Prop} {a : Act}, Does P ops k s w0 w1 w2 i oi v a → K (a.put oi.dst v) → fOp P ops k s w0 w1 w2 i K a := fun hy h => by
    unfold fOp; simp only [hi]; exact ⟨v, hy, h⟩
  induction fuel with
  | zero =>
    intro listed a _ hr hy H
    refine ⟨fun h => (by rw [h] at hr; cases hr), fun j hj => ?_⟩
    by_cases hji : j = i
    · subst hji; exact take hy H
    · have := ready_mono hj hji
      rw [H.1] at this
      cases this
  | succ fuel ih =>
    intro listed a hfree hr hy H
    refine ⟨fun h => (by rw [h] at hr; cases hr), fun j hj => ?_⟩
    by_cases hji : j = i
    · subst hji; exact take hy H
    · have h1 := H.2 j (ready_mono hj hji)
      obtain ⟨hjun, oj, hoj, hall⟩ := mem_ready.1 hj
      have hnot : ∀ e ∈ oj.after, Region.binds md e = true → e.on ≠ i := fun e he hb heq => by
        have h1 := hall e he hb
        have h0 := (mem_ready.1 hr).1
        rw [heq] at h1
        rcases Nat.lt_or_ge i listed.size with h' | h'
        · simp [h'] at h0 h1; rw [h0] at h1; cases h1
        · simp [Array.getElem?_eq_none h'] at h1
      have h2 := fOp_put hoj (hfree j oj hoj hji hjun hnot) (fun cs b => hsel i oi cs b hi) (fun cs b => hsel j oj cs b hoj) hy h1
      have hfree' : ∀ m om, ops[m]? = some om → m ≠ i → (listed.setIfInBounds j true).getD m true = false →
          (∀ e ∈ om.after, Region.binds md e = true → e.on ≠ i) → oi.apart ops om = true := fun m om hm hmi hun hno => by
        refine hfree m om hm hmi ?_ hno
        by_cases hjm : j = m
        · subst hjm; exact hjun
        · rw [getD_set_ne true hjm] at hun; exact hun
      refine fOp_mono (fun a' h3 => ih (listed.setIfInBounds j true) a' hfree' (ready_mono hr (Ne.symm hji)) h3.1 ?_) h2
      rw [Array.setIfInBounds_comm _ _ hji]
      exact h3.2
set_option maxRecDepth 100000 in
theorem wpAnyF_lex {Q : Act → Prop} (hs : Region.noSelect ops = true) : ∀ (l : List Oper) (m : Nat) (listed : Array Bool) (a : Act), (∀ j, l[j]? = ops[m + j]?) → listed.size = ops.size → (∀ j, j < m → j < ops.size → listed.getD j false = true) →
    Region.lexFrom md ops l.length m listed = true → wpFlt P ops k s w0 w1 w2 Q m l a → wpAnyF P md ops k s w0 w1 w2 (fun listed a => (s < ops.size → listed.getD s false = true) ∧ Q a) l.length listed a
  | [], m, listed, _, hl, hz, hd, hB, h => ⟨by simpa [Region.lexFrom] using hB, fun hsz => hd s (by
      rcases Nat.lt_or_ge s m with h1 | h1
      · exact h1
      · have := hl (s - m)
        rw [show m + (s - m) = s by omega, Array.getElem?_eq_getElem hsz] at this
        cases this) hsz, h⟩
  | o :: l, m, listed, a, hl, hz, hd, hB, h => by
    have h0 : ops[m]? = some o := by simpa using (hl 0).symm
    have hml : m < ops.size := (Array.getElem?_eq_some_iff.1 h0).1
    simp only [List.length_cons, Region.lexFrom, Bool.and_eq_true] at hB
    obtain ⟨⟨hr, hf⟩, hB'⟩ := hB
    obtain ⟨v, hy, hK⟩ := h
    refine wpAnyF_first h0 (Region.noSelect_spec hs) l.length listed a (Region.free_spec h0 hf) (by simpa using hr) hy
      (wpAnyF_lex hs l (m + 1) _ _ (fun j => by have := hl (j + 1); simpa [Nat.add_assoc, Nat.add_comm 1 j] using this) (by simpa using hz) (fun j hj hjs => ?_) hB' hK)
    by_cases hjm : j = m
    · subst hjm; simp [hz, hml]
    · exact getD_set_true (hd j (by omega) hjs)
/-- What came up before what waits for it. -/
def Closed (md : Region.Mode) (ops : Array Oper) (listed : Array Bool) : Prop := ∀ j oj, ops[j]? = some oj → listed.getD j false = true → ∀ e ∈ oj.after, Region.binds md e = true → listed.getD e.on false = true
def atW (k s : Nat) (w0 w1 w2 : World) (listed : Array Bool) : World := if listed.getD s false then w2 else if listed.getD k false then w1 else w0
set_option maxRecDepth 100000 in
theorem getD_ft {listed : Array Bool} {i : Nat} (h : listed.getD i true = false) : listed.getD i false = false ∧ i < listed.size := by
  rcases Nat.lt_or_ge i listed.size with h' | h'
  · simp [h'] at h ⊢; exact h
  · simp [Array.getElem?_eq_none h'] at h
set_option maxRecDepth 100000 in
theorem Closed.set {listed : Array Bool} {i : Nat} (h : Closed md ops listed) (hi : i ∈ Region.ready md ops listed) : Closed md ops (listed.setIfInBounds i true) := by
  obtain ⟨_, oi, hoi, hall⟩ := mem_ready.1 hi
  intro j oj hj hl e he hb
  by_cases hij : i = j
  · subst hij
    have : oj = oi := Option.some.inj (hj.symm.trans hoi)
    subst this
    exact getD_set_true (hall e he hb)
  · rw [getD_set_ne false hij] at hl
    exact getD_set_true (h j oj hj hl e he hb)
set_option maxRecDepth 100000 in
theorem wp_of_goes {o : Oper} {a : Act} {v : Value} {w w' : World} {K' : Act → World → Prop} {Q' : Exit → Act → World → Prop} (hg : goesTo P w w' v ((execOp a.eval o).run P w)) (h : K' (a.put o.dst v) w') : o.wp P a w K' Q' := by
  unfold Oper.wp
  generalize (execOp a.eval o).run P w = r at *
  cases r with
  | ok n x =>
    cases n <;> simp only [goesTo] at hg <;> simp only [Oper.upon]
    case value u => obtain ⟨rfl, rfl⟩ := hg; exact h
    case skip => obtain ⟨rfl, rfl⟩ := hg; exact h
    case enter f args =>
      obtain ⟨rfl, rfl, hc⟩ := hg
      exact hc.mono fun e w'' ⟨he, hw''⟩ => by subst he; subst hw''; exact h
  | halt x w' => simp only [goesTo] at hg
set_option maxRecDepth 100000 in
theorem wpAny_of_flt {Q : Act → Prop} {Q' : Exit → Act → World → Prop} {os : Oper} (hks : k ≠ s) (hsz : s < ops.size) (hos : ops[s]? = some os) (hwait : ∃ e ∈ os.after, Region.binds md e = true ∧ e.on = k) (hQ : ∀ a, Q a → Q' .normal a w2) :
    ∀ (fuel : Nat) (listed : Array Bool) (a : Act), Closed md ops listed →
    wpAnyF P md ops k s w0 w1 w2 (fun listed a => (s < ops.size → listed.getD s false = true) ∧ Q a) fuel listed a → wpAny P md ops Q' fuel listed a (atW k s w0 w1 w2 listed)
  | 0, listed, a, _, h => ⟨h.1, by have e : atW k s w0 w1 w2 listed = w2 := by unfold atW; rw [if_pos (h.2.1 hsz)]
                                   rw [e]; exact hQ _ h.2.2⟩
  | fuel + 1, listed, a, hc, h => by
    refine ⟨fun h0 => ?_, fun i hi => ?_⟩
    · have h1 := h.1 h0
      have e : atW k s w0 w1 w2 listed = w2 := by unfold atW; rw [if_pos (h1.1 hsz)]
      rw [e]; exact hQ _ h1.2
    · have h2 := h.2 i hi
      have hc2 := hc.set hi
      have hun := (mem_ready.1 hi).1
      obtain ⟨hif, hil⟩ := getD_ft hun
      have next : ∀ a', wpAnyF P md ops k s w0 w1 w2 (fun listed a => (s < ops.size → listed.getD s false = true) ∧ Q a) fuel (listed.setIfInBounds i true) a' → wpAny P md ops Q' fuel (listed.setIfInBounds i true) a' (atW k s w0 w1 w2 (listed.setIfInBounds i true)) :=
        fun a' => wpAny_of_flt hks hsz hos hwait hQ fuel _ a' hc2
      unfold fOp at h2
      unfold wpOp
      split
      · rename_i ho; simp only [ho] at h2
        obtain ⟨_, o, ho', _⟩ := mem_ready.1 hi
        rw [ho] at ho'; cases ho'
      · rename_i o ho
        simp only [ho] at h2
        obtain ⟨v, hd, hK⟩ := h2
        have here := next _ hK
        have hset : (listed.setIfInBounds i true).getD i false = true := by simp [hil]
        rcases hd with ⟨hw, hd⟩ | ⟨hw, rfl, hik, his⟩
        · rw [hw, if_pos rfl]
          refine .inl ?_
          unfold Asked at hd
          by_cases hik : i = k
          · subst hik
            rw [if_pos rfl] at hd
            have hsf : listed.getD s false = false := by
              cases hl : listed.getD s false with
              | false => rfl
              | true =>
                obtain ⟨e, he, hb, hon⟩ := hwait
                have := hc s os hos hl e he hb
                rw [hon, hif] at this; cases this
            have e1 : atW i s w0 w1 w2 listed = w0 := by unfold atW; rw [hsf, hif]; rfl
            have e2 : atW i s w0 w1 w2 (listed.setIfInBounds i true) = w1 := by unfold atW; rw [getD_set_ne false hks, hsf, hset]; rfl
            rw [e1]; rw [e2] at here
            exact wp_of_goes hd here
          · rw [if_neg hik] at hd
            by_cases his : i = s
            · subst his
              rw [if_pos rfl] at hd
              have hkt : listed.getD k false = true := by
                obtain ⟨_, o2, ho2, hall⟩ := mem_ready.1 hi
                have : o2 = os := Option.some.inj (ho2.symm.trans hos)
                subst this
                obtain ⟨e, he, hb, hon⟩ := hwait
                rw [← hon]; exact hall e he hb
              have e1 : atW k i w0 w1 w2 listed = w1 := by unfold atW; rw [hif, hkt]; rfl
              have e2 : atW k i w0 w1 w2 (listed.setIfInBounds i true) = w2 := by unfold atW; rw [hset]; rfl
              rw [e1]; rw [e2] at here
              exact wp_of_goes hd here
            · rw [if_neg his] at hd
              obtain ⟨d0, d1, d2⟩ := hd
              have e2 : atW k s w0 w1 w2 (listed.setIfInBounds i true) = atW k s w0 w1 w2 listed := by unfold atW; rw [getD_set_ne false his, getD_set_ne false hik]
              rw [e2] at here
              unfold atW at here ⊢
              split
              · rename_i h1; rw [if_pos h1] at here; exact wp_of_goes d2 here
              · rename_i h1
                rw [if_neg h1] at here
                split
                · rename_i h3; rw [if_pos h3] at here; exact wp_of_goes d1 here
                · rename_i h3; rw [if_neg h3] at here; exact wp_of_goes d0 here
        · rw [hw]
          have e2 : atW k s w0 w1 w2 (listed.setIfInBounds i true) = atW k s w0 w1 w2 listed := by unfold atW; rw [getD_set_ne false his, getD_set_ne false hik]
          rw [e2] at here
          exact here
set_option maxRecDepth 100000 in
/-- The law: operation k makes memory wherever it comes, operation s stores behind it; the others leave each of the three worlds alone. -/
theorem wp_region_flt {id : Nat} {Q : Exit → Act → World → Prop} {a : Act} {w : World} {l : List Oper} (k s : Nat) (w1 w2 : World) (hm : P.follows .mixedOrders = true) (hB : Region.lexB .any l.toArray = true)
    (hks : k ≠ s) (hsz : s < l.length) (hwait : (match l[s]? with | some os => os.after.any fun e => Region.binds .any e && e.on == k | none => false) = true)
    (h : wpFlt P l.toArray k s w.drew w1 w2 (fun a' => Q .normal a' w2) 0 l a) : (Code.region id l.toArray true).wp P Q a w := by
  simp only [Region.lexB, Bool.and_eq_true] at hB
  refine wp_region_any hm ?_
  obtain ⟨os, hos⟩ : ∃ os, l[s]? = some os := ⟨_, List.getElem?_eq_getElem hsz⟩
  rw [hos] at hwait
  obtain ⟨e, he, hb⟩ := Array.any_eq_true'.1 hwait
  simp only [Bool.and_eq_true, beq_iff_eq] at hb
  have hx := wpAnyF_lex (P := P) (k := k) (s := s) (w0 := w.drew) (w1 := w1) (w2 := w2) (md := .any) hB.1 l 0 (Array.replicate l.toArray.size false) a (by simp) (by simp) (fun j hj => absurd hj (Nat.not_lt_zero _)) (by simpa using hB.2) h
  have hf : ∀ m j, (Array.replicate m false).getD j false = false := fun m j => by
    rcases Nat.lt_or_ge j m with h | h
    · simp [h]
    · simp [h]
  have hy := wpAny_of_flt (ops := l.toArray) (md := .any) hks (by simpa using hsz) (by simpa using hos) ⟨e, he, hb.1, hb.2⟩ (fun a h => h) _ _ _ (fun j oj _ hl => by rw [hf] at hl; cases hl) hx
  have e0 : atW k s w.drew w1 w2 (Array.replicate l.toArray.size false) = w.drew := by unfold atW; rw [hf, hf]; rfl
  rw [e0] at hy
  simpa using hy
set_option maxRecDepth 100000 in
theorem wpFlt_nil {Q : Act → Prop} {i : Nat} {a : Act} (h : Q a) : wpFlt P ops k s w0 w1 w2 Q i [] a := h
set_option maxRecDepth 100000 in
/-- A step that leaves the world alone. -/
theorem wpFlt_quiet {Q : Act → Prop} {i : Nat} {a : Act} {o : Oper} {rest : List Oper} (hik : i ≠ k) (his : i ≠ s)
    (h : ∀ K : Act → Prop, (∀ a, wpFlt P ops k s w0 w1 w2 Q (i + 1) rest a → K a) →
      if Region.wanted o (yielded ops a.tmps) then ∃ v, goesTo P w0 w0 v ((execOp a.eval o).run P w0) ∧ goesTo P w1 w1 v ((execOp a.eval o).run P w1) ∧ goesTo P w2 w2 v ((execOp a.eval o).run P w2) ∧ K (a.put o.dst v) else K (a.put o.dst undef)) :
    wpFlt P ops k s w0 w1 w2 Q i (o :: rest) a := by
  have h2 := h _ (fun _ h => h)
  cases hw : Region.wanted o (yielded ops a.tmps)
  · rw [hw] at h2
    exact ⟨undef, .inr ⟨hw, rfl, hik, his⟩, h2⟩
  · rw [hw, if_pos rfl] at h2
    obtain ⟨v, a1, a2, a3, a4⟩ := h2
    refine ⟨v, .inl ⟨hw, ?_⟩, a4⟩
    unfold Asked
    rw [if_neg hik, if_neg his]
    exact ⟨a1, a2, a3⟩
set_option maxRecDepth 100000 in
theorem wpFlt_make {Q : Act → Prop} {i : Nat} {a : Act} {o : Oper} {rest : List Oper} (hg : o.guard = none) (hik : i = k)
    (h : ∀ K : Act → Prop, (∀ a, wpFlt P ops k s w0 w1 w2 Q (i + 1) rest a → K a) → ∃ v, goesTo P w0 w1 v ((execOp a.eval o).run P w0) ∧ K (a.put o.dst v)) :
    wpFlt P ops k s w0 w1 w2 Q i (o :: rest) a := by
  obtain ⟨v, a1, a2⟩ := h _ (fun _ h => h)
  refine ⟨v, .inl ⟨by unfold Region.wanted; rw [hg], ?_⟩, a2⟩
  unfold Asked
  rw [if_pos hik]
  exact a1
set_option maxRecDepth 100000 in
theorem wpFlt_store {Q : Act → Prop} {i : Nat} {a : Act} {o : Oper} {rest : List Oper} (hg : o.guard = none) (hik : i ≠ k) (his : i = s)
    (h : ∀ K : Act → Prop, (∀ a, wpFlt P ops k s w0 w1 w2 Q (i + 1) rest a → K a) → ∃ v, goesTo P w1 w2 v ((execOp a.eval o).run P w1) ∧ K (a.put o.dst v)) :
    wpFlt P ops k s w0 w1 w2 Q i (o :: rest) a := by
  obtain ⟨v, a1, a2⟩ := h _ (fun _ h => h)
  refine ⟨v, .inl ⟨by unfold Region.wanted; rw [hg], ?_⟩, a2⟩
  unfold Asked
  rw [if_neg hik, if_pos his]
  exact a1
set_option maxRecDepth 100000 in
@[go_sem] theorem goesTo_value (w w' x : World) (v u : Value) : goesTo P w w' v (.ok (.value u) x) = (x = w' ∧ u = v) := rfl
set_option maxRecDepth 100000 in
@[go_sem] theorem goesTo_skip (w w' x : World) (v : Value) : goesTo P w w' v (.ok .skip x) = (x = w' ∧ v = undef) := rfl
set_option maxRecDepth 100000 in
@[go_sem] theorem goesTo_enter (w w' x : World) (v : Value) (f : FuncId) (args : Array Value) : goesTo P w w' v (.ok (.enter f args) x) = (x = w ∧ w' = w ∧ Calls P f args w (fun e w'' => e = .returned v ∧ w'' = w)) := rfl
end

end Go.Proofs.YtceljjnohjnepaaGreatDoor
