/- The walk of the numbers' Mul. -/
import Derived.Test.YtoaihbmicdbaiaaNumW6
namespace Go.Proofs.Ytoaihbmicdbaiaa
open Go.RowKit DG
attribute [local go_sem ↓] exl_Elem exs_Elem exl_wide exs_wide
                 attribute [local go_sem] ldr_Elem str_Elem ldr_wide str_wide
attribute [local go_sem] to_quad0

theorem mul_dig {wl o : List Nat} {k cr d cr' : Nat} (hw : wl.length = 8) (ho : o.length = 4) (hk : k < 4)
    (h : val (2 ^ 64) (o.take k) + cr * (2 ^ 64) ^ k = val (2 ^ 64) (wl.take k) + 38 * val (2 ^ 64) ((wl.drop 4).take k)) (he : d + 2 ^ 64 * cr' = 38 * wl.getD (k + 4) 0 + wl.getD k 0 + cr) :
    val (2 ^ 64) ((o.set k d).take (k + 1)) + cr' * (2 ^ 64) ^ (k + 1) = val (2 ^ 64) (wl.take (k + 1)) + 38 * val (2 ^ 64) ((wl.drop 4).take (k + 1)) := by
  have hd : (wl.drop 4).getD k 0 = wl.getD (k + 4) 0 := by simp [List.getD_eq_getElem?_getD, Nat.add_comm]
  rw [take_set_succ (by omega), val_take_succ wl k (by omega), val_take_succ (wl.drop 4) k (by rw [List.length_drop]; omega), hd]
  generalize wl.getD (k + 4) 0 = x at *
  generalize wl.getD k 0 = y at *
  have h3 : (d + 2 ^ 64 * cr') * (2 ^ 64) ^ k = (38 * x + y + cr) * (2 ^ 64) ^ k := by rw [he]
  rw [Nat.add_mul, Nat.add_mul, Nat.add_mul] at h3
  rw [Nat.pow_succ (2 ^ 64) k, show cr' * ((2 ^ 64) ^ k * 2 ^ 64) = 2 ^ 64 * cr' * (2 ^ 64) ^ k by rw [Nat.mul_comm ((2 ^ 64) ^ k), ← Nat.mul_assoc, Nat.mul_comm cr']]
  rw [Nat.mul_add, ← Nat.mul_assoc 38]
  generalize (2 ^ 64) ^ k = P at *
  omega
theorem mul_end {wl o : List Nat} {n cr : Nat} (hw : wl.length = 8) (ho : o.length = 4) (hall : All (2 ^ 64) wl) (oall : All (2 ^ 64) o) (hv : val (2 ^ 64) wl = n)
    (h : val (2 ^ 64) o + cr * (2 ^ 64) ^ 4 = val (2 ^ 64) (wl.take 4) + 38 * val (2 ^ 64) ((wl.drop 4).take 4)) : ints .u64 o = quad (foldN n % p2) ∧ cr = foldN n / p2 := by
  rw [List.take_of_length_le (l := wl.drop 4) (by rw [List.length_drop]; omega)] at h
  have hc := val_cut (B := 2 ^ 64) wl 4 (by omega)
  have h1 := val_take_lt hall (k := 4) (by omega)
  have h2 := val_lt oall
  have hd := digs_val oall
  rw [ho] at h2 hd
  rw [hv] at hc
  rw [quad_ints, ← hd]
  have e : (2 ^ 64) ^ 4 = p2 := by decide
  rw [e] at hc h1 h2 h
  clear e
  generalize val (2 ^ 64) (wl.take 4) = t at *
  generalize val (2 ^ 64) (wl.drop 4) = u at *
  generalize val (2 ^ 64) o = z at *
  have e1 : n % p2 = t := by rw [hc, Nat.add_mul_mod_self_left, Nat.mod_eq_of_lt h1]
  have e2 : n / p2 = u := by rw [hc, Nat.add_mul_div_left _ _ (by omega), Nat.div_eq_of_lt h1, Nat.zero_add]
  unfold foldN
  rw [e1, e2, ← h]
  rw [Nat.add_mul_mod_self_right, Nat.mod_eq_of_lt h2, Nat.add_mul_div_right _ _ (by omega), Nat.div_eq_of_lt h2, Nat.zero_add]
  exact ⟨rfl, rfl⟩

set_option maxHeartbeats 2000000 in
theorem mul_any (a b : Nat) (W : World) (ha : a < p2) (hb : b < p2) : Calls Try.prog 26 #[.agg (quad a), .agg (quad b)] W fun e w' => e = .returned (.agg (quad (mulN a b))) ∧ Below W.heap.size W w' := by
  have hpr := fun w => product_any a b w ha hb
  have hv := val_digs (B := 2 ^ 64) (a * b) 8
  rw [Nat.mod_eq_of_lt (product_bound ha hb)] at hv
  have hall := digs_all (B := 2 ^ 64) (by decide) (a * b) 8
  have hl := digs_length (B := 2 ^ 64) (a * b) 8
  obtain ⟨wl, hwl⟩ : ∃ wl, digs (2 ^ 64) (a * b) 8 = wl := ⟨_, rfl⟩
  simp only [hwl] at hpr
  rw [hwl] at hv hall hl
  have hs8 : (ints .u64 wl).size = 8 := by rw [ints_size, hl]
  have ho8 : ones (ints .u64 wl) = true := rows_one _ _
  obtain ⟨r, hr⟩ : ∃ r, mulN a b = r := ⟨_, rfl⟩
  rw [hr]
  have HPR := hid hpr
  have HV := hid hv
  have HL := hid hl
  have HR := hid hr
  clear hpr hv hl hwl hr
  go_enter Try.func26, Try.ntmps26
  go_wp2_with fail
  refine (HPR.out _).mono ?_
  rintro e w1 ⟨rfl, hb1⟩
  have kA := Kept.on (kept (b := W.heap.size + 1 + 1) (o := .cells (quad 0) 24 (0, 0)) (by go_simp)) hb1
  have b1 : Hid (Below W.heap.size W w1) := below_to (by repeat (first | exact Below.refl _ _ | exact below_new _ | assumption | refine Below.drew ?_ | refine Below.drewN ?_ _ | refine below_alloc ?_ _ | refine below_blk' ?_ (by omega) _)) hb1
  clear hb1
  try clear gA lA nA mA
  obtain ⟨gA, lA, nA, mA⟩ := kA
  go_upto_region 3 with (fail)
  obtain ⟨X, hX⟩ : ∃ X, w1.heap.size = X := ⟨_, rfl⟩
  obtain ⟨w2, hw2⟩ : ∃ w2, (w1.alloc (.cells (ints .u64 wl) 67)).alloc (.cells (quad 0) 24) = w2 := ⟨_, rfl⟩
  have gR := hid (show hget w2 (W.heap.size + 1 + 1) = some (.cells (quad 0) 24 (0, 0)) by rw [← hw2]; clear hw2 hX; go_simp)
  have gV : w2.heap[X]? = some (.cells (ints .u64 wl) 67 (0, 0)) := by rw [← hw2, ← hX]; exact alloc_old (alloc_at _ _)
  have gO : w2.heap[X + 1]? = some (.cells (ints .u64 [0, 0, 0, 0]) 24 (0, 0)) := by rw [← hw2, ← hX]; exact alloc_at' (by simp) _
  have b2 : Hid (Below W.heap.size W w2) := by rw [← hw2]; exact below_alloc (below_alloc b1.out _) _
  have hRX : W.heap.size + 1 + 1 < X := by rw [← hX]; exact lA
  rw [hw2, hX]
  clear hX hw2 gA lA nA mA b1
  go_wp2_with fail
  go_loopw [15, 7] (fun i cy wq => ∃ (k cr : Nat) (o : List Nat), k ≤ 4 ∧ i = .int .i64 (k : Int) ∧ cy = .int .u64 (cr : Int) ∧ cr < 18446744073709551616 ∧ o.length = 4 ∧ All (2 ^ 64) o ∧
      val (2 ^ 64) (o.take k) + cr * (2 ^ 64) ^ k = val (2 ^ 64) (wl.take k) + 38 * val (2 ^ 64) ((wl.drop 4).take k) ∧
      hget wq (W.heap.size + 1 + 1) = some (.cells (quad 0) 24 (0, 0)) ∧ wq.heap[X]? = some (.cells (ints .u64 wl) 67 (0, 0)) ∧ wq.heap[X + 1]? = some (.cells (ints .u64 o) 24 (0, 0)) ∧ Below W.heap.size W wq) (fun i _ _ => (4 - intOf i).toNat)
  case atStart => exact ⟨0, 0, [0, 0, 0, 0], by omega, rfl, rfl, by omega, rfl, by exact all_replicate 4 (by decide), by simp [DG.val], gR.out, gV, gO, b2.out⟩
  case round =>
    clear gV gO
    obtain ⟨k, cr, o, hk, rfl, rfl, hcr, hol, hoa, hv, qR, qV, qO, qb⟩ := hrel
    have HVM := hid hv
    have QR := hid qR
    have QBE := hid qb
    clear hv qR qb
    by_cases hk4 : k < 4
    · have hkd : decide ((k : Int) < 4) = true := decide_eq_true (by omega)
      have c1 := ints_cell qV (j := k + 4) (by rw [HL.out]; omega)
      have c2 := ints_cell qV (j := k) (by rw [HL.out]; omega)
      have c3 := ints_cell qO (j := k) (by omega)
      have x1 := hall.getD (j := k + 4) (by rw [HL.out]; omega)
      have y1 := hall.getD (j := k) (by rw [HL.out]; omega)
      have hfo := free_at qO
      have hi0 : 0 ≤ (k : Int) + 4 := by omega
      have hi1 : (k : Int) + 4 < 8 := by omega
      have hi2 : ((k : Int) + 4).toNat = k + 4 := by omega
      have hi3 : (k : Int) < 8 := by omega
      generalize hx : wl.getD (k + 4) 0 = x at *
      generalize hy : wl.getD k 0 = y at *
      have HX := hid hx
      have HY := hid hy
      have QV := hid qV
      have QO := hid qO
      clear hx hy qV qO
      go_wp2_with fail
      refine (mul64_any x 38 _ (by omega) (by omega)).mono ?_
      rintro e w' ⟨rfl, rfl⟩
      obtain ⟨hi, lo, eh, el, m1, m2, m3, m4, m5, m6⟩ := mul64_facts (x : Int) 38 (by omega) (by omega)
      rw [eh, el]
      clear eh el
      have hhi : hi ≤ 38 := by omega
      have tok1 : True := trivial
      have tok2 : True := trivial
      go_wp2_with (first | (have _t := tok1; refine wpList_add64 rfl rfl _ _ _ rfl rfl rfl (by omega) (by omega) (by omega) (by omega) (by omega) ?_; intro d1 e1 da1 db1 ea1 eb1 pa1 pb1; obtain ⟨d1, rfl⟩ := Int.eq_ofNat_of_zero_le da1; obtain ⟨e1, rfl⟩ := Int.eq_ofNat_of_zero_le ea1; clear tok1 _t) | (have _t := tok2; refine wpList_add64 rfl rfl _ _ _ rfl rfl rfl (by omega) (by omega) (by omega) (by omega) (by omega) ?_; intro d2 e2 da2 db2 ea2 eb2 pa2 pb2; obtain ⟨d2, rfl⟩ := Int.eq_ofNat_of_zero_le da2; obtain ⟨e2, rfl⟩ := Int.eq_ofNat_of_zero_le ea2; clear tok2 _t))
      have he : d2 + 2 ^ 64 * (hi.toNat + e1 + e2) = 38 * wl.getD (k + 4) 0 + wl.getD k 0 + cr := by rw [HX.out, HY.out]; omega
      have hst := mul_dig (o := o) HL.out hol hk4 HVM.out he
      have HST := hid hst
      have hci : hi + (e1 : Int) + (e2 : Int) = ((hi.toNat + e1 + e2 : Nat) : Int) := by omega
      clear he hst
      go_roundw
      case rel =>
        refine ⟨k + 1, hi.toNat + e1 + e2, o.set k d2, by omega, by go_num, congrArg (Value.int IntKind.u64) hci, by omega, by simp [hol], All.set hoa _ (by omega), HST.out, at_setCell_other QR.out (by simp; omega) _, at_setCell_other QV.out (by simp) _, ints_store QO.out _ _, QBE.out.setCell (by simp; omega) _⟩
      case measure => simp [intOf]; omega
    · have hkd : decide ((k : Int) < 4) = false := decide_eq_false (by omega)
      have hk5 : k = 4 := by omega
      have hv := HVM.out
      rw [hk5, List.take_of_length_le (l := o) (by omega)] at hv
      obtain ⟨r1, r2⟩ := mul_end HL.out hol hall hoa HV.out hv
      have hc := mul_foldlt ha hb
      rw [← r2] at hc
      rw [r1] at qO
      have hp := fun w => plus_any (foldN (a * b) % p2) (38 * cr) w (Nat.mod_lt _ (by decide)) (by omega)
      simp only [show ((38 * cr : Nat) : Int) = 38 * (cr : Int) by omega] at hp
      rw [r2] at hp
      simp only [show plusN (foldN (a * b) % p2) (38 * (foldN (a * b) / p2)) = r from HR.out] at hp
      rw [← r2] at hp
      obtain ⟨z, hz⟩ : ∃ z, foldN (a * b) % p2 = z := ⟨_, rfl⟩
      rw [hz] at qO
      simp only [hz] at hp
      have gO : hget wr (X + 1) = some (.cells (quad z) 24 (0, 0)) := qO
      have gR : hget wr (W.heap.size + 1 + 1) = some (.cells (quad 0) 24 (0, 0)) := QR.out
      have HP := hid hp
      clear hp hz r1 r2 hv hk5 qO qV HVM QR
      go_wp2_with fail
      refine (HP.out _).mono ?_
      rintro e w3 ⟨rfl, hb3⟩
      have kR := Kept.on (kept (b := W.heap.size + 1 + 1) (o := .cells (quad 0) 24 (0, 0)) (by go_simp)) hb3
      have b3 : Hid (Below W.heap.size W w3) := below_to (by repeat (first | exact Below.refl _ _ | exact below_new _ | exact QBE.out | assumption | refine Below.drew ?_ | refine Below.drewN ?_ _ | refine below_alloc ?_ _ | refine below_blk' ?_ (by omega) _)) hb3
      clear hb3
      try clear gR lR nR mR
      obtain ⟨gR, lR, nR, mR⟩ := kR
      clear QBE
      clear gO
      go_wp2_with fail
      refine bodyPost_ret (v := .agg (quad r)) (results_cell_row Try.results26 _ _ (W.heap.size + 1 + 1) 24 (quad r) (0, 0) _ (by rfl) (by rw [← hget_eq]; go_simp) Try.underlying24 rfl (by rw [info_Elem]; go_simp)) rfl ?_
      exact ⟨rfl, by repeat (first | exact Below.refl _ _ | exact below_new _ | exact b3.out | assumption | refine Below.drew ?_ | refine Below.drewN ?_ _ | refine below_alloc ?_ _ | refine below_blk' ?_ (by omega) _)⟩

end Go.Proofs.Ytoaihbmicdbaiaa
