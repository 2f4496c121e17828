/- The walk of the order's MulAdd. -/
import Derived.Test.YtaencgjlneohnaaOrdW3
import Derived.Laws.CopyOwn
import Derived.WideShapes
namespace Go.Proofs.Ytaencgjlneohnaa
open Go.RowKit DG

set_option maxRecDepth 100000 in
set_option maxHeartbeats 1000000 in
theorem MulAdd_any (a b c : Nat) (W : World) (ha : a < ordL) (hb : b < ordL) (hc : c < ordL) :
    Calls Try.prog 15 #[.agg (quad a), .agg (quad b), .agg (quad c)] W fun e w' => e = .returned (.agg (quad ((a * b + c) % ordL))) ∧ Below W.heap.size W w' := by
  rw [quad_ints a, quad_ints b, quad_ints c]
  obtain ⟨da, hda⟩ : ∃ da, da = digs (2 ^ 64) a 4 := ⟨_, rfl⟩
  obtain ⟨db, hdb⟩ : ∃ db, db = digs (2 ^ 64) b 4 := ⟨_, rfl⟩
  obtain ⟨dc, hdc⟩ : ∃ dc, dc = digs (2 ^ 64) c 4 := ⟨_, rfl⟩
  rw [← hda, ← hdb, ← hdc]
  have HDA := hid hda
  have HDB := hid hdb
  have HDC := hid hdc
  clear hda hdb hdc
  generalize ha0 : da.getD 0 0 = a0
  generalize ha1 : da.getD 1 0 = a1
  generalize ha2 : da.getD 2 0 = a2
  generalize ha3 : da.getD 3 0 = a3
  generalize hb0 : db.getD 0 0 = b0
  generalize hb1 : db.getD 1 0 = b1
  generalize hb2 : db.getD 2 0 = b2
  generalize hb3 : db.getD 3 0 = b3
  generalize hc0 : dc.getD 0 0 = c0
  generalize hc1 : dc.getD 1 0 = c1
  generalize hc2 : dc.getD 2 0 = c2
  generalize hc3 : dc.getD 3 0 = c3
  have HA := hid (And.intro ha0 (And.intro ha1 (And.intro ha2 ha3)))
  have HB := hid (And.intro hb0 (And.intro hb1 (And.intro hb2 hb3)))
  have HC := hid (And.intro hc0 (And.intro hc1 (And.intro hc2 hc3)))
  clear ha0 ha1 ha2 ha3 hb0 hb1 hb2 hb3 hc0 hc1 hc2 hc3
  go_enter Try.func15, Try.ntmps15
  go_wp2_with fail
  refine still_tail 3 (by kernel_rfl) (by kernel_rfl) ?_
  simp only [List.take_succ_cons, List.take_zero, List.drop_succ_cons, List.drop_zero]
  repeat (first | (refine wpStill_step (fun K hK => ?_); go_simp; refine hK _ ?_; clear hK K; try go_ints))
  refine wpStill_nil ?_
  obtain ⟨w1, hw1⟩ : ∃ w1, w1 = (((((W.alloc (.cells #[.int .u64 a0, .int .u64 a1, .int .u64 a2, .int .u64 a3] 26)).alloc (.cells #[.int .u64 b0, .int .u64 b1, .int .u64 b2, .int .u64 b3] 26)).alloc
      (.cells #[.int .u64 c0, .int .u64 c1, .int .u64 c2, .int .u64 c3] 26)).alloc (.cells #[.int .u64 0, .int .u64 0, .int .u64 0, .int .u64 0] 26)).alloc
      (.cells #[.int .u64 0, .int .u64 0, .int .u64 0, .int .u64 0, .int .u64 0, .int .u64 0, .int .u64 0, .int .u64 0] 49)).drew := ⟨_, rfl⟩
  have fA : w1.heap[W.heap.size]? = some (.cells #[.int .u64 a0, .int .u64 a1, .int .u64 a2, .int .u64 a3] 26 (0, 0)) := by rw [hw1]; exact alloc_old (alloc_old (alloc_old (alloc_old (alloc_at _ _))))
  have fB : w1.heap[W.heap.size + 1]? = some (.cells #[.int .u64 b0, .int .u64 b1, .int .u64 b2, .int .u64 b3] 26 (0, 0)) := by rw [hw1]; exact alloc_old (alloc_old (alloc_old (alloc_at' (by simp) _)))
  have fC : w1.heap[W.heap.size + 1 + 1]? = some (.cells #[.int .u64 c0, .int .u64 c1, .int .u64 c2, .int .u64 c3] 26 (0, 0)) := by rw [hw1]; exact alloc_old (alloc_old (alloc_at' (by simp) _))
  have fR : w1.heap[W.heap.size + 1 + 1 + 1]? = some (.cells #[.int .u64 0, .int .u64 0, .int .u64 0, .int .u64 0] 26 (0, 0)) := by rw [hw1]; exact alloc_old (alloc_at' (by simp) _)
  have fV : w1.heap[W.heap.size + 1 + 1 + 1 + 1]? = some (.cells #[.int .u64 0, .int .u64 0, .int .u64 0, .int .u64 0, .int .u64 0, .int .u64 0, .int .u64 0, .int .u64 0] 49 (0, 0)) := by rw [hw1]; exact alloc_at' (by simp) _
  have bel1 : Below W.heap.size W w1 := by rw [hw1]; exact (below_alloc (below_alloc (below_alloc (below_alloc (below_new _) _) _) _) _).drew
  rw [← hw1]
  clear hw1
  obtain ⟨N, hN⟩ : ∃ N, N = W.heap.size := ⟨_, rfl⟩
  rw [← hN] at fA fB fC fR fV bel1 ⊢
  have HN := hid hN
  clear hN
  refine wpList_copy_splice rfl _ _ _ _ rfl 23 Try.underlying45 (by kernel_rfl) _ _ 8 8 4 4 rfl rfl (N + 1 + 1 + 1 + 1) 0
    [.int .u64 0, .int .u64 0, .int .u64 0, .int .u64 0, .int .u64 0, .int .u64 0, .int .u64 0, .int .u64 0] 49 fV [.int .u64 c0, .int .u64 c1, .int .u64 c2, .int .u64 c3] rfl ?_ (by simp) (by simp [Value.oneCell']) (N + 1 + 1 + 1 + 1) w1 (Below.refl _ _) (Nat.le_refl _) ?_
  · intro _
    refine ⟨rfl, ⟨N + 1 + 1, 0, none⟩, rfl, fun j v hv => ?_⟩
    rw [Go.WideShapes.add_plain, Nat.zero_add, cell_at fC]
    simpa using hv
  intro w2 hV2 hb2
  have gA := (hb2.block N (by omega)).trans fA
  have gB := (hb2.block (N + 1) (by omega)).trans fB
  have gR := hid ((hb2.block (N + 1 + 1 + 1) (by omega)).trans fR)
  have gV : w2.heap[N + 1 + 1 + 1 + 1]? = some (.cells (ints .u64 [c0, c1, c2, c3, 0, 0, 0, 0]) 49 (0, 0)) := hV2.out
  have bel2 := hid (bel1.trans (hb2.mono (by have := lt_blk fV; have := HN.out; omega)))
  clear fA fB fC fR fV hV2 hb2 bel1
  have ca0 : w2.cell? ⟨N, 0, none⟩ = some (.int .u64 a0) := cell_at gA 0
  have ca1 : w2.cell? ⟨N, 1, none⟩ = some (.int .u64 a1) := cell_at gA 1
  have ca2 : w2.cell? ⟨N, 2, none⟩ = some (.int .u64 a2) := cell_at gA 2
  have ca3 : w2.cell? ⟨N, 3, none⟩ = some (.int .u64 a3) := cell_at gA 3
  have GB := hid gB
  have GV := hid gV
  clear gA gB gV
  go_wp2_with fail
  clear ca0 ca1 ca2 ca3
  go_loopw [23] (fun i wr => ∃ (k : Nat) (wl : List Nat), k ≤ 4 ∧ i = .int .i64 (k : Int) ∧ wl.length = 8 ∧ All (2 ^ 64) wl ∧ val (2 ^ 64) wl = c + val (2 ^ 64) (da.take k) * b ∧
      wr.heap[N + 1]? = some (.cells #[.int .u64 b0, .int .u64 b1, .int .u64 b2, .int .u64 b3] 26 (0, 0)) ∧ wr.heap[N + 1 + 1 + 1]? = some (.cells #[.int .u64 0, .int .u64 0, .int .u64 0, .int .u64 0] 26 (0, 0)) ∧
      wr.heap[N + 1 + 1 + 1 + 1]? = some (.cells (ints .u64 wl) 49 (0, 0)) ∧ Below W.heap.size W wr) (fun i _ => (4 - intOf i).toNat)
  case atStart =>
    refine ⟨0, [c0, c1, c2, c3, 0, 0, 0, 0], by omega, rfl, rfl, ?_, ?_, GB.out, gR.out, GV.out, by rw [← HN.out]; exact bel2.out⟩
    · obtain ⟨e0, e1, e2, e3⟩ := HC.out
      have h := digs_all (B := 2 ^ 64) (by decide) c 4
      rw [← HDC.out] at h
      have hl : dc.length = 4 := by rw [HDC.out, digs_length]
      have g0 := h.getD (j := 0) (by omega)
      have g1 := h.getD (j := 1) (by omega)
      have g2 := h.getD (j := 2) (by omega)
      have g3 := h.getD (j := 3) (by omega)
      rw [e0] at g0; rw [e1] at g1; rw [e2] at g2; rw [e3] at g3
      intro y hy
      simp only [List.mem_cons, List.not_mem_nil, or_false] at hy
      omega
    · obtain ⟨e0, e1, e2, e3⟩ := HC.out
      have hv := val_digs (B := 2 ^ 64) c 4
      rw [← HDC.out, Nat.mod_eq_of_lt (a := c) (b := (2 ^ 64) ^ 4) (by unfold ordL at hc; omega)] at hv
      have hl : dc.length = 4 := by rw [HDC.out, digs_length]
      match dc, hl, hv, e0, e1, e2, e3 with
      | [y0, y1, y2, y3], _, hv, e0, e1, e2, e3 =>
        simp only [List.getD_cons_zero, List.getD_cons_succ] at e0 e1 e2 e3
        subst e0 e1 e2 e3
        rw [← hv]
        simp [val]
  case round =>
    obtain ⟨k, wl, hk, rfl, hwl, hall, hval, rB, rR, rV, rb⟩ := hrel
    have HV := hid hval
    have RR := hid rR
    have RV := hid rV
    have RBE := hid rb
    clear hval rR rV rb
    by_cases hk4 : k < 4
    · have cb0 : wr.cell? ⟨N + 1, 0, none⟩ = some (.int .u64 b0) := cell_at rB 0
      have cb1 : wr.cell? ⟨N + 1, 1, none⟩ = some (.int .u64 b1) := cell_at rB 1
      have cb2 : wr.cell? ⟨N + 1, 2, none⟩ = some (.int .u64 b2) := cell_at rB 2
      have cb3 : wr.cell? ⟨N + 1, 3, none⟩ = some (.int .u64 b3) := cell_at rB 3
      have RB := hid rB
      clear rB
      obtain ⟨x, hx, hix⟩ : ∃ x : Nat, da.getD k 0 = x ∧ ∀ w, (Instr.index 24 (.agg #[.int .u64 (a0 : Int), .int .u64 (a1 : Int), .int .u64 (a2 : Int), .int .u64 (a3 : Int)]) (.int .i64 (k : Int))).run Try.prog w = .ok (.int .u64 (x : Int)) w := by
        obtain ⟨e0, e1, e2, e3⟩ := HA.out
        match k, hk4 with
        | 0, _ => exact ⟨a0, e0, fun w => idx4_0 _ _ _ _ w⟩
        | 1, _ => exact ⟨a1, e1, fun w => idx4_1 _ _ _ _ w⟩
        | 2, _ => exact ⟨a2, e2, fun w => idx4_2 _ _ _ _ w⟩
        | 3, _ => exact ⟨a3, e3, fun w => idx4_3 _ _ _ _ w⟩
      have HX := hid hx
      clear hx
      have hkd : decide ((k : Int) < 4) = true := decide_eq_true (by omega)
      go_wp2_with fail
      clear hix cb0 cb1 cb2 cb3
      go_loopw [29, 10] (fun i cy wq => ∃ (j cr : Nat) (wm : List Nat), j ≤ 4 ∧ i = .int .i64 (j : Int) ∧ cy = .int .u64 (cr : Int) ∧ cr < 18446744073709551616 ∧ wm.length = 8 ∧ All (2 ^ 64) wm ∧
          val (2 ^ 64) wm + cr * (2 ^ 64) ^ (k + j) = val (2 ^ 64) wl + x * val (2 ^ 64) (db.take j) * (2 ^ 64) ^ k ∧
          wq.heap[N + 1]? = some (.cells #[.int .u64 b0, .int .u64 b1, .int .u64 b2, .int .u64 b3] 26 (0, 0)) ∧ wq.heap[N + 1 + 1 + 1]? = some (.cells #[.int .u64 0, .int .u64 0, .int .u64 0, .int .u64 0] 26 (0, 0)) ∧
          wq.heap[N + 1 + 1 + 1 + 1]? = some (.cells (ints .u64 wm) 49 (0, 0)) ∧ Below W.heap.size W wq) (fun i _ _ => (4 - intOf i).toNat)
      case atStart => exact ⟨0, 0, wl, by omega, rfl, rfl, by omega, hwl, hall, by simp [DG.val], RB.out, RR.out, RV.out, RBE.out⟩
      case round =>
        obtain ⟨j, cr, wm, hj, rfl, rfl, hcr, hwm, hallm, hvm, qB, qR, qV, qb⟩ := hrel
        have HVM := hid hvm
        have QB := hid qB
        have QR := hid qR
        have QBE := hid qb
        clear hvm qB qR qb
        by_cases hj4 : j < 4
        · obtain ⟨y, hy, hiy⟩ : ∃ y : Nat, db.getD j 0 = y ∧ ∀ w, (Instr.index 24 (.agg #[.int .u64 (b0 : Int), .int .u64 (b1 : Int), .int .u64 (b2 : Int), .int .u64 (b3 : Int)]) (.int .i64 (j : Int))).run Try.prog w = .ok (.int .u64 (y : Int)) w := by
            obtain ⟨e0, e1, e2, e3⟩ := HB.out
            match j, hj4 with
            | 0, _ => exact ⟨b0, e0, fun w => idx4_0 _ _ _ _ w⟩
            | 1, _ => exact ⟨b1, e1, fun w => idx4_1 _ _ _ _ w⟩
            | 2, _ => exact ⟨b2, e2, fun w => idx4_2 _ _ _ _ w⟩
            | 3, _ => exact ⟨b3, e3, fun w => idx4_3 _ _ _ _ w⟩
          have hx64 : x < 18446744073709551616 := by rw [← HX.out, HDA.out]; exact (digs_all (B := 2 ^ 64) (by decide) a 4).getD (by rw [digs_length]; exact hk4)
          have hy64 : y < 18446744073709551616 := by rw [← hy, HDB.out]; exact (digs_all (B := 2 ^ 64) (by decide) b 4).getD (by rw [digs_length]; exact hj4)
          have hkj : k + j < wm.length := by omega
          have ht64 := hallm.getD hkj
          have cj := ints_cell qV hkj
          have hfv := free_at qV
          have hi0 : 0 ≤ (k : Int) + (j : Int) := by omega
          have hi1 : (k : Int) + (j : Int) < 8 := by omega
          have hi2 : ((k : Int) + (j : Int)).toNat = k + j := by omega
          generalize hT : wm.getD (k + j) 0 = T at *
          have HT := hid hT
          have HY := hid hy
          have QV := hid qV
          clear hT hy qV
          go_wp2_with fail
          refine (mul64_any x y _ (by omega) (by omega)).mono ?_
          rintro e w' ⟨rfl, rfl⟩
          obtain ⟨hi, lo, eh, el, m1, m2, m3, m4, m5, m6⟩ := mul64_facts (x : Int) (y : Int) (by omega) (by omega)
          rw [eh, el]
          have M5 := hid m5
          clear eh el m5
          have tok1 : True := trivial
          have tok2 : True := trivial
          go_wp2_with (first | (have _t := tok1; refine wpList_add64 rfl rfl _ _ _ rfl rfl rfl (by omega) (by omega) (by omega) (by omega) (by omega) ?_; intro d1 e1 da1 db1 ea1 eb1 pa1 pb1; obtain ⟨d1, rfl⟩ := Int.eq_ofNat_of_zero_le da1; obtain ⟨e1, rfl⟩ := Int.eq_ofNat_of_zero_le ea1; clear tok1 _t) | (have _t := tok2; refine wpList_add64 rfl rfl _ _ _ rfl rfl rfl (by omega) (by omega) (by omega) (by omega) (by omega) ?_; intro d2 e2 da2 db2 ea2 eb2 pa2 pb2; obtain ⟨d2, rfl⟩ := Int.eq_ofNat_of_zero_le da2; obtain ⟨e2, rfl⟩ := Int.eq_ofNat_of_zero_le ea2; clear tok2 _t))
          have he : d2 + 18446744073709551616 * (hi.toNat + e1 + e2) = x * y + T + cr := by
            have m := M5.out
            have m' : ((x * y : Nat) : Int) = lo + 18446744073709551616 * hi := by rw [Int.natCast_mul]; exact m
            clear m M5
            generalize x * y = xy at *
            omega
          have hst := mul_step (B := 2 ^ 64) (wl := wm) (j := k + j) (v := d2) (x := x) (y := y) (c := cr) (c' := hi.toNat + e1 + e2) (V0 := val (2 ^ 64) wl) (t := val (2 ^ 64) (db.take j)) (i := k) (k := j) hkj rfl HVM.out (by rw [HT.out]; exact he)
          rw [← HY.out, ← val_take_succ db j (by rw [HDB.out, digs_length]; exact hj4)] at hst
          have HST := hid hst
          clear hst
          have hci : hi + (e1 : Int) + (e2 : Int) = ((hi.toNat + e1 + e2 : Nat) : Int) := by omega
          go_roundw
          case rel =>
            refine ⟨j + 1, hi.toNat + e1 + e2, wm.set (k + j) d2, by omega, by go_num, congrArg (Value.int IntKind.u64) hci, by omega, by simp [hwm], All.set hallm _ (by omega), HST.out, at_setCell_other QB.out (by simp) _, at_setCell_other QR.out (by simp) _, ?_, QBE.out.setCell (by have := HN.out; simp; omega) _⟩
            exact ints_store QV.out _ _
          case measure => simp [intOf]; omega
        · have hj5 : j = 4 := by omega
          have hjd : decide ((j : Int) < 4) = false := decide_eq_false (by omega)
          have hvm := HVM.out
          rw [hj5, List.take_of_length_le (by rw [HDB.out, digs_length]; omega), HDB.out, val_digs, Nat.mod_eq_of_lt (a := b) (b := (2 ^ 64) ^ 4) (by unfold ordL at hb; omega)] at hvm
          have HVM2 := hid hvm
          have QV := hid qV
          clear hvm HVM qV hj5
          go_wp2_with fail
          go_loopw [16, 10] (fun i cy wq => ∃ (j cr : Nat) (wm : List Nat), k + 4 ≤ j ∧ j ≤ 8 ∧ i = .int .i64 (j : Int) ∧ cy = .int .u64 (cr : Int) ∧ cr < 18446744073709551616 ∧ wm.length = 8 ∧ All (2 ^ 64) wm ∧
              val (2 ^ 64) wm + cr * (2 ^ 64) ^ j = val (2 ^ 64) wl + x * b * (2 ^ 64) ^ k ∧
              wq.heap[N + 1]? = some (.cells #[.int .u64 b0, .int .u64 b1, .int .u64 b2, .int .u64 b3] 26 (0, 0)) ∧ wq.heap[N + 1 + 1 + 1]? = some (.cells #[.int .u64 0, .int .u64 0, .int .u64 0, .int .u64 0] 26 (0, 0)) ∧
              wq.heap[N + 1 + 1 + 1 + 1]? = some (.cells (ints .u64 wm) 49 (0, 0)) ∧ Below W.heap.size W wq) (fun i _ _ => (8 - intOf i).toNat)
          case atStart => exact ⟨k + 4, cr, wm, by omega, by omega, by go_num, rfl, hcr, hwm, hallm, HVM2.out, QB.out, QR.out, QV.out, QBE.out⟩
          case round =>
            obtain ⟨j, cr, wm, hj1, hj, rfl, rfl, hcr, hwm, hallm, hvm, qB, qR, qV, qb⟩ := hrel
            have HVM := hid hvm
            have QB := hid qB
            have QR := hid qR
            have QBE := hid qb
            clear hvm qB qR qb
            by_cases hj8 : j < 8
            · have hkj : j < wm.length := by omega
              have ht64 := hallm.getD hkj
              have cj := ints_cell qV hkj
              have hfv := free_at qV
              generalize hT : wm.getD j 0 = T at *
              have HT := hid hT
              have QV := hid qV
              clear hT qV
              have tok1 : True := trivial
              go_wp2_with (first | (have _t := tok1; refine wpList_add64 rfl rfl _ _ _ rfl rfl rfl (by omega) (by omega) (by omega) (by omega) (by omega) ?_; intro d1 e1 da1 db1 ea1 eb1 pa1 pb1; obtain ⟨d1, rfl⟩ := Int.eq_ofNat_of_zero_le da1; obtain ⟨e1, rfl⟩ := Int.eq_ofNat_of_zero_le ea1; clear tok1 _t))
              have he : d1 + 18446744073709551616 * e1 = T + cr := by omega
              have hst := carry_step (B := 2 ^ 64) (wl := wm) (j := j) (v := d1) (c := cr) (c' := e1) hkj HVM.out (by rw [HT.out]; exact he)
              have HST := hid hst
              clear hst
              go_roundw
              case rel =>
                refine ⟨j + 1, e1, wm.set j d1, by omega, by omega, by go_num, rfl, by omega, by simp [hwm], All.set hallm _ (by omega), HST.out, at_setCell_other QB.out (by simp) _, at_setCell_other QR.out (by simp) _, ?_, QBE.out.setCell (by have := HN.out; simp; omega) _⟩
                exact ints_store QV.out _ _
              case measure => simp [intOf]; omega
            · have hj9 : j = 8 := by omega
              subst hj9
              have hval2 : val (2 ^ 64) wl + x * b * (2 ^ 64) ^ k = c + val (2 ^ 64) (da.take (k + 1)) * b := by
                rw [HV.out, val_take_succ da k (by rw [HDA.out, digs_length]; exact hk4), HX.out, Nat.add_mul, Nat.mul_right_comm]
                omega
              have hbd : c + val (2 ^ 64) (da.take (k + 1)) * b < (2 ^ 64) ^ 8 := by
                refine row_bound ?_ (by unfold ordL at hb; omega) (by unfold ordL at hc; omega)
                have h1 := val_lt (B := 2 ^ 64) (l := da.take (k + 1)) (fun y hy => by rw [HDA.out] at hy; exact digs_all (by decide) a 4 y (List.mem_of_mem_take hy))
                refine Nat.lt_of_lt_of_le h1 (Nat.pow_le_pow_right (by decide) ?_)
                rw [List.length_take]; omega
              have hvm := HVM.out
              rw [hval2] at hvm
              obtain ⟨hc0, hv0⟩ := no_carry hbd hvm
              subst hc0
              have HV0 := hid hv0
              have QV := hid qV
              clear hv0 hvm hbd hval2 qV
              go_wp2_with fail
              exact ⟨⟨k + 1, wm, by omega, by go_num, hwm, hallm, HV0.out, QB.out, QR.out, QV.out, QBE.out⟩, by simp [intOf]; omega⟩
    · have hk5 : k = 4 := by omega
      have hkd : decide ((k : Int) < 4) = false := decide_eq_false (by omega)
      have hval := HV.out
      rw [hk5, List.take_of_length_le (by rw [HDA.out, digs_length]; omega), HDA.out, val_digs, Nat.mod_eq_of_lt (a := a) (b := (2 ^ 64) ^ 4) (by unfold ordL at ha; omega)] at hval
      have HV2 := hid hval
      have hwc : ∀ j, j < 8 → wr.cell? ⟨N + 1 + 1 + 1 + 1, 0 + j, none⟩ = some (.int .u64 ((wl.getD j 0 : Nat) : Int)) := fun j hj => by
        rw [Nat.zero_add]; exact ints_cell RV.out (by omega)
      have HW := hid hwc
      have HWL := hid hwl
      have RB := hid rB
      clear hval hwc HV hwl rB hk5
      go_wp2_with fail
      have hcall := of_any (N + 1 + 1 + 1 + 1) 0 8 wl wr hall (by rw [HWL.out]; omega) (by rw [HWL.out]; omega) (by rw [HWL.out]; omega) (by rw [HWL.out]; exact HW.out)
      rw [HWL.out, HV2.out, Nat.add_comm c] at hcall
      refine hcall.mono ?_
      clear hcall
      rintro e w' ⟨rfl, hb2⟩
      have ha2 := (hb2.block (N + 1 + 1 + 1) (lt_blk RR.out)).trans RR.out
      have hb3 := RBE.out.trans (hb2.mono RBE.out.size)
      generalize hn : (a * b + c) % ordL = n at *
      have hltn : n < ordL := by rw [← hn]; exact Nat.mod_lt _ (by decide)
      have HNN := hid hn
      clear hn hb2 HV2 HW HWL RBE RR RV
      obtain ⟨x0, x1, x2, x3, hqq, _⟩ := quad_w4 n (by unfold ordL at hltn; omega)
      rw [hqq]
      have HQQ := hid hqq
      clear hqq
      have r0 : w'.cell? ⟨N + 1 + 1 + 1, 0, none⟩ = some (.int .u64 0) := cell_at ha2 0
      have r1 : w'.cell? ⟨N + 1 + 1 + 1, 1, none⟩ = some (.int .u64 0) := cell_at ha2 1
      have r2 : w'.cell? ⟨N + 1 + 1 + 1, 2, none⟩ = some (.int .u64 0) := cell_at ha2 2
      have r3 : w'.cell? ⟨N + 1 + 1 + 1, 3, none⟩ = some (.int .u64 0) := cell_at ha2 3
      have hf := free_at ha2
      have hNle : W.heap.size ≤ N + 1 + 1 + 1 := by have := HN.out; omega
      clear ha2
      go_wp2_with fail
      refine bodyPost_ret (v := .agg #[.int .u64 x0, .int .u64 x1, .int .u64 x2, .int .u64 x3]) (by simp [results, Try.results15, go_sem, r0, r1, r2, r3]) rfl ⟨by rw [HNN.out, HQQ.out], ?_⟩
      exact (((hb3.setCell hNle _).setCell hNle _).setCell hNle _).setCell hNle _

end Go.Proofs.Ytaencgjlneohnaa
