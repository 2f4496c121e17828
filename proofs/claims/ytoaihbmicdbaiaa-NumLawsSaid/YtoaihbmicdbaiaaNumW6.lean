/- The walk of the numbers' product. -/
import Derived.Test.YtoaihbmicdbaiaaNumV
import Derived.Test.YtoaihbmicdbaiaaSTF
import Derived.Test.YtoaihbmicdbaiaaAQ
namespace Go.Proofs.Ytoaihbmicdbaiaa
open Go.RowKit DG
theorem info_wide : (Try.prog.info? 67).map (·.size) = some 8 := by kernel_rfl
                 theorem exl_wide {r : Operand → Value} {dst : Option Nat} {x : Operand} {t : TypeId} {pos : String} {af : Array Edge} {g : Option (Nat × Bool)} : execOp r ⟨dst, .load 67 x, t, pos, af, g⟩ = (do let v ← loadRow 67 (r x); pure (Next.value v)) := rfl
                 theorem exs_wide {r : Operand → Value} {dst : Option Nat} {x y : Operand} {t : TypeId} {pos : String} {af : Array Edge} {g : Option (Nat × Bool)} : execOp r ⟨dst, .store 67 x y, t, pos, af, g⟩ = (do storeRow 67 (r x) (r y); pure Next.skip) := rfl
                 theorem ldr_wide (b : Nat) (w : World) : (loadRow 67 (.pointer (some ⟨b, 0, none⟩))).run Try.prog w = match hget w b with | some (.cells c _ _) => if c.size = 8 then .ok (.agg c) w else stuckL Try.prog 67 b w | _ => stuckL Try.prog 67 b w := loadRow_run Try.underlying67 rfl info_wide b w
                 theorem str_wide (b : Nat) (c' : Array Value) (w : World) : (storeRow 67 (.pointer (some ⟨b, 0, none⟩)) (.agg c')).run Try.prog w = match hget w b with | some (.cells c T (0, 0)) => if c.size = 8 then (if c'.size = 8 then (if ones c' = true then .ok () (blk w b (.cells c' T (0, 0))) else stuckS Try.prog 67 b (.agg c') w) else stuckS Try.prog 67 b (.agg c') w) else stuckS Try.prog 67 b (.agg c') w | _ => stuckS Try.prog 67 b (.agg c') w := storeRow_run info_wide b c' w
attribute [local go_sem ↓] exl_Elem exs_Elem exl_wide exs_wide
                                                                                                                                                                                                                                                                                                                                                                                                                                                                                                                        attribute [local go_sem] ldr_Elem str_Elem ldr_wide str_wide

theorem quad_ints (n : Nat) : quad n = ints .u64 (digs (2 ^ 64) n 4) := by
  unfold quad ints
  simp only [digs, List.map_cons, List.map_nil, Nat.div_div_eq_div_mul]
theorem product_bound {a b : Nat} (ha : a < p2) (hb : b < p2) : a * b < (2 ^ 64) ^ 8 := by
  have h1 : a * b < p2 * p2 := Nat.mul_lt_mul'' ha hb
  exact Nat.lt_of_lt_of_le h1 (by decide)
theorem idx_elem (l : List Nat) (hl : l.length = 4) (k : Nat) (hk : k < 4) (w : World) :
    (Instr.index 24 (.agg (ints .u64 l)) (.int .i64 (k : Int))).run Try.prog w = .ok (.int .u64 ((l.getD k 0 : Nat) : Int)) w :=
  run_index_ints (n := 4) (k := .u64) Try.underlying24 (by rfl) (by kernel_rfl) l hl k hk w

set_option maxHeartbeats 2000000 in
theorem product_any (a b : Nat) (W : World) (ha : a < p2) (hb : b < p2) : Calls Try.prog 43 #[.agg (quad a), .agg (quad b)] W fun e w' => e = .returned (.agg (ints .u64 (digs (2 ^ 64) (a * b) 8))) ∧ Below W.heap.size W w' := by
  rw [quad_ints, quad_ints]
  have va := val_digs (B := 2 ^ 64) a 4
  have vb := val_digs (B := 2 ^ 64) b 4
  rw [Nat.mod_eq_of_lt (a := a) (by unfold p2 at ha; omega)] at va
  rw [Nat.mod_eq_of_lt (a := b) (by unfold p2 at hb; omega)] at vb
  have aa := digs_all (B := 2 ^ 64) (by decide) a 4
  have ab := digs_all (B := 2 ^ 64) (by decide) b 4
  have la := digs_length (B := 2 ^ 64) a 4
  have lb := digs_length (B := 2 ^ 64) b 4
  have hbd := product_bound ha hb
  generalize digs (2 ^ 64) a 4 = da at *
  generalize digs (2 ^ 64) b 4 = db at *
  have hsa : (ints .u64 da).size = 4 := by rw [ints_size, la]
  have hsb : (ints .u64 db).size = 4 := by rw [ints_size, lb]
  have VA := hid va
  have VB := hid vb
  have LA := hid la
  have LB := hid lb
  have HBD := hid hbd
  clear va vb la lb hbd ha hb
  go_enter Try.func43, Try.ntmps43
  go_upto_region 1 with (fail)
  obtain ⟨N, hN⟩ : ∃ N, W.heap.size = N := ⟨_, rfl⟩
  obtain ⟨w1, hw1⟩ : ∃ w1, ((W.alloc (.cells (ints .u64 da) 24)).alloc (.cells (ints .u64 db) 24)).alloc (.cells #[.int .u64 0, .int .u64 0, .int .u64 0, .int .u64 0, .int .u64 0, .int .u64 0, .int .u64 0, .int .u64 0] 67) = w1 := ⟨_, rfl⟩
  have fA : hget w1 N = some (.cells (ints .u64 da) 24 (0, 0)) := by rw [← hw1, ← hN]; clear hw1 hN; go_simp
  have fB : hget w1 (N + 1) = some (.cells (ints .u64 db) 24 (0, 0)) := by rw [← hw1, ← hN]; clear hw1 hN; go_simp
  have fV : hget w1 (N + 1 + 1) = some (.cells (ints .u64 [0, 0, 0, 0, 0, 0, 0, 0]) 67 (0, 0)) := by rw [← hw1, ← hN]; rw [hget_alloc, if_pos (by simp)]; rfl
  have hb1 : Below W.heap.size W w1 := by rw [← hw1]; repeat (first | exact Below.refl _ _ | exact below_new _ | assumption | refine Below.drew ?_ | refine Below.drewN ?_ _ | refine below_alloc ?_ _)
  rw [hw1, hN]
  have HN := hid hN
  have FB := hid fB
  have FV := hid fV
  have HB1 := hid hb1
  clear hN hw1 fB fV hb1
  go_wp2_with fail
  clear fA
  go_loopw [14] (fun i wr => ∃ (k : Nat) (wl : List Nat), k ≤ 4 ∧ i = .int .i64 (k : Int) ∧ wl.length = 8 ∧ All (2 ^ 64) wl ∧ val (2 ^ 64) wl = val (2 ^ 64) (da.take k) * b ∧ (∀ m, k + 4 ≤ m → wl.getD m 0 = 0) ∧
      hget wr (N + 1) = some (.cells (ints .u64 db) 24 (0, 0)) ∧ hget wr (N + 1 + 1) = some (.cells (ints .u64 wl) 67 (0, 0)) ∧ Below W.heap.size W wr) (fun i _ => (4 - intOf i).toNat)
  case atStart =>
    refine ⟨0, [0, 0, 0, 0, 0, 0, 0, 0], by omega, rfl, rfl, by exact all_replicate 8 (by decide), by simp [val], fun m _ => ?_, FB.out, FV.out, HB1.out⟩
    match m with
    | 0 | 1 | 2 | 3 | 4 | 5 | 6 | 7 => rfl
    | m + 8 => simp
  case round =>
    obtain ⟨k, wl, hk, rfl, hwl, hall, hval, hz, rB, rV, rb⟩ := hrel
    have HV := hid hval
    have HZ := hid hz
    have RV := hid rV
    have RBE := hid rb
    clear hval hz rV rb
    by_cases hk4 : k < 4
    · have hkd : decide ((k : Int) < 4) = true := decide_eq_true (by omega)
      have hix := idx_elem da LA.out k hk4
      have hx64 : da.getD k 0 < 18446744073709551616 := aa.getD (by rw [LA.out]; exact hk4)
      generalize hx : da.getD k 0 = x at *
      have HX := hid hx
      clear hx
      go_wp2_with fail
      have RB := hid rB
      clear hix rB
      go_loopw [19, 7] (fun i cy wq => ∃ (j cr : Nat) (wm : List Nat), j ≤ 4 ∧ i = .int .i64 (j : Int) ∧ cy = .int .u64 (cr : Int) ∧ cr < 18446744073709551616 ∧ wm.length = 8 ∧ All (2 ^ 64) wm ∧
          val (2 ^ 64) wm + cr * (2 ^ 64) ^ (k + j) = val (2 ^ 64) wl + x * val (2 ^ 64) (db.take j) * (2 ^ 64) ^ k ∧ (∀ m, k + 4 ≤ m → wm.getD m 0 = 0) ∧
          hget wq (N + 1) = some (.cells (ints .u64 db) 24 (0, 0)) ∧ hget wq (N + 1 + 1) = some (.cells (ints .u64 wm) 67 (0, 0)) ∧ Below W.heap.size W wq) (fun i _ _ => (4 - intOf i).toNat)
      case atStart => exact ⟨0, 0, wl, by omega, rfl, rfl, by omega, hwl, hall, by simp [DG.val], HZ.out, RB.out, RV.out, RBE.out⟩
      case round =>
        obtain ⟨j, cr, wm, hj, rfl, rfl, hcr, hwm, hallm, hvm, hzm, qB, qV, qb⟩ := hrel
        have HVM := hid hvm
        have HZM := hid hzm
        have QB := hid qB
        have QBE := hid qb
        clear hvm hzm qB qb
        by_cases hj4 : j < 4
        · have hjd : decide ((j : Int) < 4) = true := decide_eq_true (by omega)
          have hiy := idx_elem db LB.out j hj4
          have hy64 : db.getD j 0 < 18446744073709551616 := ab.getD (by rw [LB.out]; exact hj4)
          generalize hy : db.getD j 0 = y at *
          have hkj : k + j < wm.length := by omega
          have ht64 := hallm.getD hkj
          have cj := ints_cell qV hkj
          have hfv := free_at qV
          have hi0 : 0 ≤ (k : Int) + (j : Int) := by omega
          have hi1 : (k : Int) + (j : Int) < 8 := by omega
          have hi2 : ((k : Int) + (j : Int)).toNat = k + j := by omega
          generalize hT : wm.getD (k + j) 0 = T at *
          have HT := hid hT
          have HY := hid hy
          have QV := hid qV
          clear hT hy qV
          go_wp2_with fail
          refine (mul64_any x y _ (by omega) (by omega)).mono ?_
          rintro e w' ⟨rfl, rfl⟩
          obtain ⟨hi, lo, eh, el, m1, m2, m3, m4, m5, m6⟩ := mul64_facts (x : Int) (y : Int) (by omega) (by omega)
          rw [eh, el]
          have M5 := hid m5
          clear eh el m5
          have tok1 : True := trivial
          have tok2 : True := trivial
          go_wp2_with (first | (have _t := tok1; refine wpList_add64 rfl rfl _ _ _ rfl rfl rfl (by omega) (by omega) (by omega) (by omega) (by omega) ?_; intro d1 e1 da1 db1 ea1 eb1 pa1 pb1; obtain ⟨d1, rfl⟩ := Int.eq_ofNat_of_zero_le da1; obtain ⟨e1, rfl⟩ := Int.eq_ofNat_of_zero_le ea1; clear tok1 _t) | (have _t := tok2; refine wpList_add64 rfl rfl _ _ _ rfl rfl rfl (by omega) (by omega) (by omega) (by omega) (by omega) ?_; intro d2 e2 da2 db2 ea2 eb2 pa2 pb2; obtain ⟨d2, rfl⟩ := Int.eq_ofNat_of_zero_le da2; obtain ⟨e2, rfl⟩ := Int.eq_ofNat_of_zero_le ea2; clear tok2 _t))
          have he : d2 + 18446744073709551616 * (hi.toNat + e1 + e2) = x * y + T + cr := by
            have m := M5.out
            have m' : ((x * y : Nat) : Int) = lo + 18446744073709551616 * hi := by rw [Int.natCast_mul]; exact m
            clear m M5
            generalize x * y = xy at *
            omega
          have hst := mul_step (B := 2 ^ 64) (wl := wm) (j := k + j) (v := d2) (x := x) (y := y) (c := cr) (c' := hi.toNat + e1 + e2) (V0 := val (2 ^ 64) wl) (t := val (2 ^ 64) (db.take j)) (i := k) (k := j) hkj rfl HVM.out (by rw [HT.out]; exact he)
          rw [← HY.out, ← val_take_succ db j (by rw [LB.out]; exact hj4)] at hst
          have HST := hid hst
          clear hst
          have hci : hi + (e1 : Int) + (e2 : Int) = ((hi.toNat + e1 + e2 : Nat) : Int) := by omega
          go_roundw
          case rel =>
            refine ⟨j + 1, hi.toNat + e1 + e2, wm.set (k + j) d2, by omega, by go_num, congrArg (Value.int IntKind.u64) hci, by omega, by simp [hwm], All.set hallm _ (by omega), HST.out, fun m hm => ?_, at_setCell_other QB.out (by simp) _, ?_, QBE.out.setCell (by have := HN.out; simp; omega) _⟩
            · have h0 := HZM.out m hm; simp only [List.getD_eq_getElem?_getD] at h0 ⊢; rw [List.getElem?_set_ne (by omega)]; exact h0
            · exact ints_store QV.out _ _
          case measure => simp [intOf]; omega
        · have hj5 : j = 4 := by omega
          have hjd : decide ((j : Int) < 4) = false := decide_eq_false (by omega)
          have hvm := HVM.out
          rw [hj5, List.take_of_length_le (by rw [LB.out]; omega), VB.out] at hvm
          have hk4' : k + 4 < wm.length := by omega
          have hfv := free_at qV
          have hcc := ints_cell qV hk4'
          have hi0 : 0 ≤ (k : Int) + 4 := by omega
          have hi1 : (k : Int) + 4 < 8 := by omega
          have hi2 : ((k : Int) + 4).toNat = k + 4 := by omega
          have hst := carry_step (B := 2 ^ 64) (wl := wm) (j := k + 4) (v := cr) (c := cr) (c' := 0) hk4' hvm (by rw [HZM.out (k + 4) (Nat.le_refl _)]; omega)
          rw [Nat.zero_mul, Nat.add_zero, HV.out, ← HX.out, Nat.mul_right_comm, ← Nat.add_mul, ← val_take_succ da k (by rw [LA.out]; exact hk4)] at hst
          have HST := hid hst
          have QV := hid qV
          clear hvm hst qV hj5 HVM
          go_wp2_with fail
          refine ⟨⟨k + 1, wm.set (k + 4) cr, by omega, by go_num, by simp [hwm], All.set hallm _ (by omega), HST.out, fun m hm => ?_, at_setCell_other QB.out (by simp) _, ints_store QV.out _ _, QBE.out.setCell (by have := HN.out; simp; omega) _⟩, by simp [intOf]; omega⟩
          have h0 := HZM.out m (by omega); simp only [List.getD_eq_getElem?_getD] at h0 ⊢; rw [List.getElem?_set_ne (by omega)]; exact h0
    · have hkd : decide ((k : Int) < 4) = false := decide_eq_false (by omega)
      have hv := HV.out
      have hk5 : k = 4 := by omega
      rw [hk5, List.take_of_length_le (by rw [LA.out]; omega), VA.out] at hv
      have hd := digs_val hall
      rw [hv, hwl] at hd
      have hs8 : (ints .u64 wl).size = 8 := by rw [ints_size, hwl]
      have ho8 : ones (ints .u64 wl) = true := rows_one _ _
      have HD := hid hd
      have rV := RV.out
      have lV := hget_lt rV
      clear hd hv hk5 RV hall HV
      go_wp2_with fail
      refine bodyPost_ret (v := .agg (ints .u64 wl)) (results_cell_row Try.results43 _ _ (N + 1 + 1) 67 (ints .u64 wl) (0, 0) _ (by rfl) (by rw [← hget_eq]; go_simp) Try.underlying67 rfl (by rw [info_wide]; go_simp)) rfl ?_
      have hNW := HN.out
      exact ⟨by rw [HD.out], by repeat (first | exact Below.refl _ _ | exact below_new _ | exact RBE.out | assumption | refine Below.drew ?_ | refine Below.drewN ?_ _ | refine below_alloc ?_ _ | refine below_blk' ?_ (by omega) _)⟩

end Go.Proofs.Ytoaihbmicdbaiaa
