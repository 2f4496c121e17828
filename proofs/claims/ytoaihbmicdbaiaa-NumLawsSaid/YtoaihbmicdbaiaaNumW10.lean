/- The walks of the numbers: raised. -/
import Derived.Test.YtoaihbmicdbaiaaNumW7
import Derived.Test.YtoaihbmicdbaiaaNumW9
import Derived.Test.YtoaihbmicdbaiaaLQT
namespace Go.Proofs.Ytoaihbmicdbaiaa
open Go.RowKit DG
attribute [local go_sem ↓] exl_Elem exs_Elem
                 attribute [local go_sem] ldr_Elem str_Elem
attribute [local go_sem] to_quad0

/-- A power of so many ones. -/
def onesN (a : Nat) : Nat → Nat
  | 0 => 1
  | k + 1 => mulN (mulN (onesN a k) (onesN a k)) a
/-- And of so many of these bits. -/
def bitsN (a x : Nat) (bits : List Nat) : Nat → Nat
  | 0 => x
  | k + 1 => if ((bits.getD k 0 : Nat) : Int) == 1 then mulN (mulN (bitsN a x bits k) (bitsN a x bits k)) a else mulN (bitsN a x bits k) (bitsN a x bits k)
def raisedN (a : Nat) (bits : List Nat) : Nat := bitsN a (onesN a 250) bits bits.length
theorem ones_lt {a : Nat} (ha : a < p2) (k : Nat) : onesN a k < p2 := by
  induction k with
  | zero => exact (by decide : 1 < p2)
  | succ k ih => exact mul_lt (mul_lt ih ih) ha
theorem bits_lt {a x : Nat} {bits : List Nat} (ha : a < p2) (hx : x < p2) (k : Nat) : bitsN a x bits k < p2 := by
  induction k with
  | zero => exact hx
  | succ k ih =>
    unfold bitsN
    split
    · exact mul_lt (mul_lt ih ih) ha
    · exact mul_lt ih ih
theorem raised_lt {a : Nat} {bits : List Nat} (ha : a < p2) : raisedN a bits < p2 := bits_lt ha (ones_lt ha _) _

set_option maxHeartbeats 2000000 in
theorem raised_any (a b cap : Nat) (bits : List Nat) (W : World) (ha : a < p2) (hall : All 256 bits) (hlen : bits.length ≤ 8) (hcap : bits.length ≤ cap) (hB : W.heap[b]? = some (.cells (ints .u8 bits) 5 (0, 0))) :
    Calls Try.prog 33 #[.agg (quad a), .slice (some ⟨b, 0, none⟩) bits.length cap] W fun e w' => e = .returned (.agg (quad (raisedN a bits))) ∧ Below W.heap.size W w' := by
  have HBB := hid hB
  have hbW : b < W.heap.size := lt_blk hB
  have hsm := hid (fun w => small_any 1 w (by decide))
  have MU := hid (fun x y w (hx : x < p2) (hy : y < p2) => mul_any x y w hx hy)
  clear hB
  obtain ⟨len, hl⟩ : ∃ len, bits.length = len := ⟨_, rfl⟩
  rw [hl] at hlen hcap ⊢
  have HL := hid hl
  clear hl
  go_enter Try.func33, Try.ntmps33
  go_wp2_with fail
  refine (hsm.out _).mono ?_
  rintro e w1 ⟨rfl, hb1⟩
  have kA := Kept.on (kept (b := W.heap.size) (o := .cells (quad a) 24 (0, 0)) (by go_simp)) hb1
  have kR := Kept.on (kept (b := W.heap.size + 1) (o := .cells (quad 0) 24 (0, 0)) (by go_simp)) hb1
  have b1 : Hid (Below W.heap.size W w1) := below_to (by repeat (first | exact Below.refl _ _ | exact below_new _ | assumption | refine Below.drew ?_ | refine Below.drewN ?_ _ | refine below_alloc ?_ _ | refine below_blk' ?_ (by omega) _)) hb1
  clear hb1
  try clear gA lA nA mA
  obtain ⟨gA, lA, nA, mA⟩ := kA
  try clear gR lR nR mR
  obtain ⟨gR, lR, nR, mR⟩ := kR
  obtain ⟨gB, lB, nB, mB⟩ := kept (show hget w1 b = some (.cells (ints .u8 bits) 5 (0, 0)) from (b1.out.block b hbW).trans HBB.out)
  have hXW := lR
  have hbX := lB
  go_upto_region 3 with (fail)
  obtain ⟨w2, hw2⟩ : ∃ w2, w1.alloc (.cells (quad 1) 24) = w2 := ⟨_, rfl⟩
  have kA := kept (show hget w2 (W.heap.size) = some (.cells (quad a) 24 (0, 0)) by rw [← hw2]; clear hw2; go_simp)
  have kR := kept (show hget w2 (W.heap.size + 1) = some (.cells (quad 0) 24 (0, 0)) by rw [← hw2]; clear hw2; go_simp)
  have kB := kept (show hget w2 (b) = some (.cells (ints .u8 bits) 5 (0, 0)) by rw [← hw2]; clear hw2; go_simp)
  have kX := kept (show hget w2 (w1.heap.size) = some (.cells (quad 1) 24 (0, 0)) by rw [← hw2]; clear hw2; go_simp)
  have b2 : Hid (Below W.heap.size W w2) := by rw [← hw2]; repeat (first | exact Below.refl _ _ | exact below_new _ | exact b1.out | assumption | refine Below.drew ?_ | refine Below.drewN ?_ _ | refine below_alloc ?_ _ | refine below_blk' ?_ (by omega) _)
  rw [hw2]
  clear hw2
  try clear gA lA nA mA
  try clear jA
  have jA := kA.later
  obtain ⟨gA, lA, nA, mA⟩ := kA
  try clear gR lR nR mR
  try clear jR
  have jR := kR.later
  obtain ⟨gR, lR, nR, mR⟩ := kR
  try clear gB lB nB mB
  try clear jB
  have jB := kB.later
  obtain ⟨gB, lB, nB, mB⟩ := kB
  try clear gX lX nX mX
  try clear jX
  have jX := kX.later
  obtain ⟨gX, lX, nX, mX⟩ := kX
  clear b1
  generalize w1.heap.size = X at *
  have q1 : (W.heap.size = X) = False := by simp; omega
  have q2 : (W.heap.size + 1 = X) = False := by simp; omega
  have q3 : (b = X) = False := by simp; omega
  have hWX : W.heap.size ≤ X := by omega
  have b2' := b2
  go_loopw [9] (fun i wr => ∃ k : Nat, k ≤ 250 ∧ i = .int .i64 (k : Int) ∧ hget wr X = some (.cells (quad (onesN a k)) 24 (0, 0)) ∧ hget wr (W.heap.size) = some (.cells (quad a) 24 (0, 0)) ∧ hget wr (W.heap.size + 1) = some (.cells (quad 0) 24 (0, 0)) ∧ hget wr b = some (.cells (ints .u8 bits) 5 (0, 0)) ∧ Hid (Below W.heap.size W wr)) (fun i _ => (250 - intOf i).toNat)
  case atStart => exact ⟨0, by omega, rfl, gX, gA, gR, gB, b2'⟩
  case round =>
    clear gX gA gR gB jX jA jR jB lX lA lR lB nX nA nR nB mX mA mR mB b2 b2'
    obtain ⟨k, hk, rfl, qX, qA, qR, qB, qb⟩ := hrel
    obtain ⟨gX, lX, nX, mX⟩ := kept qX
    obtain ⟨gA, lA, nA, mA⟩ := kept qA
    obtain ⟨gR, lR, nR, mR⟩ := kept qR
    obtain ⟨gB, lB, nB, mB⟩ := kept qB
    have jX := (kept qX).later
    have jA := (kept qA).later
    have jR := (kept qR).later
    have jB := (kept qB).later
    clear qX qA qR qB
    by_cases hk250 : k < 250
    · have hkd : decide ((k : Int) < 250) = true := decide_eq_true (by omega)
      obtain ⟨x, hx⟩ : ∃ x, onesN a k = x := ⟨_, rfl⟩
      have hx2 := ones_lt ha k
      have hst : onesN a (k + 1) = mulN (mulN (onesN a k) (onesN a k)) a := rfl
      rw [hx] at hx2 jX gX hst
      have hxx := mul_lt hx2 hx2
      obtain ⟨y, hy⟩ : ∃ y, mulN x x = y := ⟨_, rfl⟩
      have m1' := fun w => MU.out x x w hx2 hx2
      rw [hy] at hxx hst
      simp only [hy] at m1'
      have m2' := fun w => MU.out y a w hxx ha
      rw [← hst]  at m2'
      have m1 := hid m1'
      have m2 := hid m2'
      have HST := hid hst
      obtain ⟨z, hz⟩ : ∃ z, onesN a (k + 1) = z := ⟨_, rfl⟩
      have HST' := hid hz
      rw [hz] at m2
      clear hx m1' m2' hst hy hz HST
      go_wp2_with fail
      refine wp_region_later_tail 5 (by kernel_rfl) (by kernel_rfl) ?_
      simp only [List.take_succ_cons, List.take_zero, List.drop_succ_cons, List.drop_zero]
      repeat ((go_big_quiet_step ((go_at_call 26; first | with_reducible exact calls_later (m1.out _) | with_reducible exact calls_later (m2.out _)))))
      refine wpQuiet_nil ?_
      intro wL hwL
      obtain ⟨⟨w8, hL⟩, e8⟩ := hwL
      change wL = w8 at e8
      subst e8
      obtain ⟨gX, lX, nX, mX⟩ := kept (jX ⟨_, hL⟩)
      obtain ⟨gA, lA, nA, mA⟩ := kept (jA ⟨_, hL⟩)
      obtain ⟨gR, lR, nR, mR⟩ := kept (jR ⟨_, hL⟩)
      obtain ⟨gB, lB, nB, mB⟩ := kept (jB ⟨_, hL⟩)
      go_wp2_with fail
      have bz := below_blk' (below_to qb.out hL) hWX (.cells (quad z) 24 (0, 0))
      exact ⟨⟨k + 1, by omega, by go_num, by rw [HST'.out]; go_simp, by go_simp, by go_simp, by go_simp, bz⟩, by simp [intOf]; omega⟩
    · have hkd : decide ((k : Int) < 250) = false := decide_eq_false (by omega)
      have hk5 : k = 250 := by omega
      have hx2 := ones_lt ha k
      rw [hk5] at gX hx2
      obtain ⟨x, hx⟩ : ∃ x, onesN a 250 = x := ⟨_, rfl⟩
      rw [hx] at gX hx2
      have HX := hid hx
      clear hx jX jA jR jB hk5
      go_upto_region 7 with (fail)
      go_loopw [19] (fun i wr => ∃ k : Nat, k ≤ len ∧ i = .int .i64 (k : Int) ∧ hget wr X = some (.cells (quad (bitsN a x bits k)) 24 (0, 0)) ∧ hget wr (W.heap.size) = some (.cells (quad a) 24 (0, 0)) ∧ hget wr (W.heap.size + 1) = some (.cells (quad 0) 24 (0, 0)) ∧ hget wr b = some (.cells (ints .u8 bits) 5 (0, 0)) ∧ Hid (Below W.heap.size W wr)) (fun i _ => (len - intOf i).toNat)
      case atStart => exact ⟨0, by omega, rfl, gX, gA, gR, gB, qb⟩
      case round =>
        clear gX gA gR gB lX lA lR lB nX nA nR nB mX mA mR mB qb
        obtain ⟨k, hk, rfl, qX, qA, qR, qB, qb⟩ := hrel
        obtain ⟨gX, lX, nX, mX⟩ := kept qX
        obtain ⟨gA, lA, nA, mA⟩ := kept qA
        obtain ⟨gR, lR, nR, mR⟩ := kept qR
        obtain ⟨gB, lB, nB, mB⟩ := kept qB
        have jX := (kept qX).later
        have jA := (kept qA).later
        have jR := (kept qR).later
        have jB := (kept qB).later
        by_cases hkl : k < len
        · have hkd : decide ((k : Int) < len) = true := decide_eq_true (by omega)
          have hi3 : (k : Int) < len := by omega
          have hkl' : (k : Int) < cap := by omega
          have cb := ints_cell (show wr.heap[b]? = some (.cells (ints .u8 bits) 5 (0, 0)) from qB) (j := k) (by rw [HL.out]; exact hkl)
          obtain ⟨y, hy⟩ : ∃ y, bitsN a x bits k = y := ⟨_, rfl⟩
          have hy2 : bitsN a x bits k < p2 := bits_lt ha hx2 k
          have hst : bitsN a x bits (k + 1) = if ((bits.getD k 0 : Nat) : Int) == 1 then mulN (mulN (bitsN a x bits k) (bitsN a x bits k)) a else mulN (bitsN a x bits k) (bitsN a x bits k) := rfl
          rw [hy] at hy2 qX hst gX
          have hyy := mul_lt hy2 hy2
          have hya := mul_lt hyy ha
          obtain ⟨v, hv⟩ : ∃ v, mulN y y = v := ⟨_, rfl⟩
          obtain ⟨u, hu⟩ : ∃ u, mulN v a = u := ⟨_, rfl⟩
          obtain ⟨t, ht⟩ : ∃ t, bits.getD k 0 = t := ⟨_, rfl⟩
          have m1' := fun w => MU.out y y w hy2 hy2
          rw [hv] at hyy hst hya
          simp only [hv] at m1'
          have m2' := fun w => MU.out v a w hyy ha
          rw [hu] at hst hya
          simp only [hu] at m2'
          rw [ht] at cb hst
          have m3' := fun w => select_any ((t : Int) == 1) v u w hyy hya
          rw [← hst] at m3'
          have m1 := hid m1'
          have m2 := hid m2'
          have m3 := hid m3'
          obtain ⟨z, hz⟩ : ∃ z, bitsN a x bits (k + 1) = z := ⟨_, rfl⟩
          have HZ := hid hz
          rw [hz] at m3
          clear jX jA jR jB m1' m2' m3' hst hv hu ht hy hz qX qA qR qB
          go_wp2_with fail
          refine (m1.out _).mono ?_
          rintro e w3 ⟨rfl, hb3⟩
          have kA := Kept.on (kept (b := W.heap.size) (o := .cells (quad a) 24 (0, 0)) (by go_simp)) hb3
          have kR := Kept.on (kept (b := W.heap.size + 1) (o := .cells (quad 0) 24 (0, 0)) (by go_simp)) hb3
          have kB := Kept.on (kept (b := b) (o := .cells (ints .u8 bits) 5 (0, 0)) (by go_simp)) hb3
          have kX := Kept.on (kept (b := X) (o := .cells (quad y) 24 (0, 0)) (by go_simp)) hb3
          have b3 : Hid (Below W.heap.size W w3) := below_to (by repeat (first | exact Below.refl _ _ | exact below_new _ | exact qb.out | assumption | refine Below.drew ?_ | refine Below.drewN ?_ _ | refine below_alloc ?_ _ | refine below_blk' ?_ (by omega) _)) hb3
          clear hb3
          try clear gA lA nA mA
          obtain ⟨gA, lA, nA, mA⟩ := kA
          try clear gR lR nR mR
          obtain ⟨gR, lR, nR, mR⟩ := kR
          try clear gB lB nB mB
          obtain ⟨gB, lB, nB, mB⟩ := kB
          try clear gX lX nX mX
          obtain ⟨gX, lX, nX, mX⟩ := kX
          clear qb
          clear cb
          go_wp2_with fail
          obtain ⟨w4, hw4⟩ : ∃ w4, blk w3 X (.cells (quad v) 24 (0, 0)) = w4 := ⟨_, rfl⟩
          have kA := kept (show hget w4 (W.heap.size) = some (.cells (quad a) 24 (0, 0)) by rw [← hw4]; clear hw4; go_simp)
          have kR := kept (show hget w4 (W.heap.size + 1) = some (.cells (quad 0) 24 (0, 0)) by rw [← hw4]; clear hw4; go_simp)
          have kB := kept (show hget w4 (b) = some (.cells (ints .u8 bits) 5 (0, 0)) by rw [← hw4]; clear hw4; go_simp)
          have kX := kept (show hget w4 (X) = some (.cells (quad v) 24 (0, 0)) by rw [← hw4]; clear hw4; go_simp)
          have b4 : Hid (Below W.heap.size W w4) := by rw [← hw4]; repeat (first | exact Below.refl _ _ | exact below_new _ | exact b3.out | assumption | refine Below.drew ?_ | refine Below.drewN ?_ _ | refine below_alloc ?_ _ | refine below_blk' ?_ (by omega) _)
          rw [hw4]
          clear hw4
          try clear gA lA nA mA
          try clear jA
          have jA := kA.later
          obtain ⟨gA, lA, nA, mA⟩ := kA
          try clear gR lR nR mR
          try clear jR
          have jR := kR.later
          obtain ⟨gR, lR, nR, mR⟩ := kR
          try clear gB lB nB mB
          try clear jB
          have jB := kB.later
          obtain ⟨gB, lB, nB, mB⟩ := kB
          try clear gX lX nX mX
          try clear jX
          have jX := kX.later
          obtain ⟨gX, lX, nX, mX⟩ := kX
          clear b3
          refine wp_region_later_tail 7 (by kernel_rfl) (by kernel_rfl) ?_
          simp only [List.take_succ_cons, List.take_zero, List.drop_succ_cons, List.drop_zero]
          repeat ((go_big_quiet_step ((first | (go_at_call 26; with_reducible exact calls_later (m2.out _)) | (go_at_call 28; with_reducible exact calls_later (m3.out _))))))
          refine wpQuiet_nil ?_
          intro wL hwL
          obtain ⟨⟨w8, hL⟩, e8⟩ := hwL
          change wL = w8 at e8
          subst e8
          obtain ⟨gX, lX, nX, mX⟩ := kept (jX ⟨_, hL⟩)
          obtain ⟨gA, lA, nA, mA⟩ := kept (jA ⟨_, hL⟩)
          obtain ⟨gR, lR, nR, mR⟩ := kept (jR ⟨_, hL⟩)
          obtain ⟨gB, lB, nB, mB⟩ := kept (jB ⟨_, hL⟩)
          go_wp2_with fail
          have bz := below_blk' (below_to b4.out hL) hWX (.cells (quad z) 24 (0, 0))
          exact ⟨⟨k + 1, by omega, by go_num, by rw [HZ.out]; go_simp, by go_simp, by go_simp, by go_simp, bz⟩, by simp [intOf]; omega⟩
        · have hkd : decide ((k : Int) < len) = false := decide_eq_false (by omega)
          have hk5 : k = len := by omega
          have hfin : bitsN a x bits k = raisedN a bits := by unfold raisedN; rw [hk5, HL.out, HX.out]
          rw [hfin] at gX
          generalize hr : raisedN a bits = r at *
          have HR := hid hr
          clear hr hfin jX jA jR jB qX qA qR qB
          go_wp2_with fail
          refine bodyPost_ret (v := .agg (quad r)) (results_cell_row Try.results33 _ _ (W.heap.size + 1) 24 (quad r) (0, 0) _ (by rfl) (by rw [← hget_eq]; go_simp) Try.underlying24 rfl (by rw [info_Elem]; go_simp)) rfl ?_
          exact ⟨by rw [HR.out], by repeat (first | exact Below.refl _ _ | exact below_new _ | exact qb.out | assumption | refine Below.drew ?_ | refine Below.drewN ?_ _ | refine below_alloc ?_ _ | refine below_blk' ?_ (by omega) _)⟩

end Go.Proofs.Ytoaihbmicdbaiaa
