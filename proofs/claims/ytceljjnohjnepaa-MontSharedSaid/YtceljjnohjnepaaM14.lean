/- The walk of the order's MulAdd. The walk of the order's Bytes. The curve: multiples of two points, bit by bit. Points as the document has them: three numbers; what they stand for; sums and multiples of them. -/
import Derived.Test.YtceljjnohjnepaaM13
import Derived.Laws.CopyOwn
import Derived.WideShapes
import Derived.Test.YtceljjnohjnepaaM05
namespace Go.Proofs.Ytceljjnohjnepaa
open Go.RowKit DG

set_option maxRecDepth 100000 in
set_option maxHeartbeats 1000000 in
theorem MulAdd_any (a b c : Nat) (W : World) (ha : a < ordL) (hb : b < ordL) (hc : c < ordL) :
    Calls Try.prog 37 #[.agg (quad a), .agg (quad b), .agg (quad c)] W fun e w' => e = .returned (.agg (quad ((a * b + c) % ordL))) ∧ Below W.heap.size W w' := by
  rw [oquad_ints a, oquad_ints b, oquad_ints c]
  obtain ⟨da, hda⟩ : ∃ da, da = digs (2 ^ 64) a 4 := ⟨_, rfl⟩
  obtain ⟨db, hdb⟩ : ∃ db, db = digs (2 ^ 64) b 4 := ⟨_, rfl⟩
  obtain ⟨dc, hdc⟩ : ∃ dc, dc = digs (2 ^ 64) c 4 := ⟨_, rfl⟩
  rw [← hda, ← hdb, ← hdc]
  have HDA := hid hda
  have HDB := hid hdb
  have HDC := hid hdc
  clear hda hdb hdc
  generalize ha0 : da.getD 0 0 = a0
  generalize ha1 : da.getD 1 0 = a1
  generalize ha2 : da.getD 2 0 = a2
  generalize ha3 : da.getD 3 0 = a3
  generalize hb0 : db.getD 0 0 = b0
  generalize hb1 : db.getD 1 0 = b1
  generalize hb2 : db.getD 2 0 = b2
  generalize hb3 : db.getD 3 0 = b3
  generalize hc0 : dc.getD 0 0 = c0
  generalize hc1 : dc.getD 1 0 = c1
  generalize hc2 : dc.getD 2 0 = c2
  generalize hc3 : dc.getD 3 0 = c3
  have HA := hid (And.intro ha0 (And.intro ha1 (And.intro ha2 ha3)))
  have HB := hid (And.intro hb0 (And.intro hb1 (And.intro hb2 hb3)))
  have HC := hid (And.intro hc0 (And.intro hc1 (And.intro hc2 hc3)))
  clear ha0 ha1 ha2 ha3 hb0 hb1 hb2 hb3 hc0 hc1 hc2 hc3
  go_enter Try.func37, Try.ntmps37
  go_wp2_with fail
  refine still_tail 3 (by kernel_rfl) (by kernel_rfl) ?_
  simp only [List.take_succ_cons, List.take_zero, List.drop_succ_cons, List.drop_zero]
  repeat (first | (refine wpStill_step (fun K hK => ?_); go_simp; refine hK _ ?_; clear hK K; try go_ints))
  refine wpStill_nil ?_
  obtain ⟨w1, hw1⟩ : ∃ w1, w1 = (((((W.alloc (.cells #[.int .u64 a0, .int .u64 a1, .int .u64 a2, .int .u64 a3] 59)).alloc (.cells #[.int .u64 b0, .int .u64 b1, .int .u64 b2, .int .u64 b3] 59)).alloc
      (.cells #[.int .u64 c0, .int .u64 c1, .int .u64 c2, .int .u64 c3] 59)).alloc (.cells #[.int .u64 0, .int .u64 0, .int .u64 0, .int .u64 0] 59)).alloc
      (.cells #[.int .u64 0, .int .u64 0, .int .u64 0, .int .u64 0, .int .u64 0, .int .u64 0, .int .u64 0, .int .u64 0] 100)).drew := ⟨_, rfl⟩
  have fA : w1.heap[W.heap.size]? = some (.cells #[.int .u64 a0, .int .u64 a1, .int .u64 a2, .int .u64 a3] 59 (0, 0)) := by rw [hw1]; exact alloc_old (alloc_old (alloc_old (alloc_old (alloc_at _ _))))
  have fB : w1.heap[W.heap.size + 1]? = some (.cells #[.int .u64 b0, .int .u64 b1, .int .u64 b2, .int .u64 b3] 59 (0, 0)) := by rw [hw1]; exact alloc_old (alloc_old (alloc_old (alloc_at' (by simp) _)))
  have fC : w1.heap[W.heap.size + 1 + 1]? = some (.cells #[.int .u64 c0, .int .u64 c1, .int .u64 c2, .int .u64 c3] 59 (0, 0)) := by rw [hw1]; exact alloc_old (alloc_old (alloc_at' (by simp) _))
  have fR : w1.heap[W.heap.size + 1 + 1 + 1]? = some (.cells #[.int .u64 0, .int .u64 0, .int .u64 0, .int .u64 0] 59 (0, 0)) := by rw [hw1]; exact alloc_old (alloc_at' (by simp) _)
  have fV : w1.heap[W.heap.size + 1 + 1 + 1 + 1]? = some (.cells #[.int .u64 0, .int .u64 0, .int .u64 0, .int .u64 0, .int .u64 0, .int .u64 0, .int .u64 0, .int .u64 0] 100 (0, 0)) := by rw [hw1]; exact alloc_at' (by simp) _
  have bel1 : Below W.heap.size W w1 := by rw [hw1]; exact (below_alloc (below_alloc (below_alloc (below_alloc (below_new _) _) _) _) _).drew
  rw [← hw1]
  clear hw1
  obtain ⟨N, hN⟩ : ∃ N, N = W.heap.size := ⟨_, rfl⟩
  rw [← hN] at fA fB fC fR fV bel1 ⊢
  have HN := hid hN
  clear hN
  refine wpList_copy_splice rfl _ _ _ _ rfl 33 Try.underlying92 (by kernel_rfl) _ _ 8 8 4 4 rfl rfl (N + 1 + 1 + 1 + 1) 0
    [.int .u64 0, .int .u64 0, .int .u64 0, .int .u64 0, .int .u64 0, .int .u64 0, .int .u64 0, .int .u64 0] 100 fV [.int .u64 c0, .int .u64 c1, .int .u64 c2, .int .u64 c3] rfl ?_ (by simp) (by simp [Value.oneCell']) (N + 1 + 1 + 1 + 1) w1 (Below.refl _ _) (Nat.le_refl _) ?_
  · intro _
    refine ⟨rfl, ⟨N + 1 + 1, 0, none⟩, rfl, fun j v hv => ?_⟩
    rw [Go.WideShapes.add_plain, Nat.zero_add, cell_at fC]
    simpa using hv
  intro w2 hV2 hb2
  have gA := (hb2.block N (by omega)).trans fA
  have gB := (hb2.block (N + 1) (by omega)).trans fB
  have gR := hid ((hb2.block (N + 1 + 1 + 1) (by omega)).trans fR)
  have gV : w2.heap[N + 1 + 1 + 1 + 1]? = some (.cells (ints .u64 [c0, c1, c2, c3, 0, 0, 0, 0]) 100 (0, 0)) := hV2.out
  have bel2 := hid (bel1.trans (hb2.mono (by have := lt_blk fV; have := HN.out; omega)))
  clear fA fB fC fR fV hV2 hb2 bel1
  have ca0 : w2.cell? ⟨N, 0, none⟩ = some (.int .u64 a0) := cell_at gA 0
  have ca1 : w2.cell? ⟨N, 1, none⟩ = some (.int .u64 a1) := cell_at gA 1
  have ca2 : w2.cell? ⟨N, 2, none⟩ = some (.int .u64 a2) := cell_at gA 2
  have ca3 : w2.cell? ⟨N, 3, none⟩ = some (.int .u64 a3) := cell_at gA 3
  have GB := hid gB
  have GV := hid gV
  clear gA gB gV
  go_wp2_with fail
  clear ca0 ca1 ca2 ca3
  go_loopw [23] (fun i wr => ∃ (k : Nat) (wl : List Nat), k ≤ 4 ∧ i = .int .i64 (k : Int) ∧ wl.length = 8 ∧ All (2 ^ 64) wl ∧ val (2 ^ 64) wl = c + val (2 ^ 64) (da.take k) * b ∧
      wr.heap[N + 1]? = some (.cells #[.int .u64 b0, .int .u64 b1, .int .u64 b2, .int .u64 b3] 59 (0, 0)) ∧ wr.heap[N + 1 + 1 + 1]? = some (.cells #[.int .u64 0, .int .u64 0, .int .u64 0, .int .u64 0] 59 (0, 0)) ∧
      wr.heap[N + 1 + 1 + 1 + 1]? = some (.cells (ints .u64 wl) 100 (0, 0)) ∧ Below W.heap.size W wr) (fun i _ => (4 - intOf i).toNat)
  case atStart =>
    refine ⟨0, [c0, c1, c2, c3, 0, 0, 0, 0], by omega, rfl, rfl, ?_, ?_, GB.out, gR.out, GV.out, by rw [← HN.out]; exact bel2.out⟩
    · obtain ⟨e0, e1, e2, e3⟩ := HC.out
      have h := digs_all (B := 2 ^ 64) (by decide) c 4
      rw [← HDC.out] at h
      have hl : dc.length = 4 := by rw [HDC.out, digs_length]
      have g0 := h.getD (j := 0) (by omega)
      have g1 := h.getD (j := 1) (by omega)
      have g2 := h.getD (j := 2) (by omega)
      have g3 := h.getD (j := 3) (by omega)
      rw [e0] at g0; rw [e1] at g1; rw [e2] at g2; rw [e3] at g3
      intro y hy
      simp only [List.mem_cons, List.not_mem_nil, or_false] at hy
      omega
    · obtain ⟨e0, e1, e2, e3⟩ := HC.out
      have hv := val_digs (B := 2 ^ 64) c 4
      rw [← HDC.out, Nat.mod_eq_of_lt (a := c) (b := (2 ^ 64) ^ 4) (by unfold ordL at hc; omega)] at hv
      have hl : dc.length = 4 := by rw [HDC.out, digs_length]
      match dc, hl, hv, e0, e1, e2, e3 with
      | [y0, y1, y2, y3], _, hv, e0, e1, e2, e3 =>
        simp only [List.getD_cons_zero, List.getD_cons_succ] at e0 e1 e2 e3
        subst e0 e1 e2 e3
        rw [← hv]
        simp [val]
  case round =>
    obtain ⟨k, wl, hk, rfl, hwl, hall, hval, rB, rR, rV, rb⟩ := hrel
    have HV := hid hval
    have RR := hid rR
    have RV := hid rV
    have RBE := hid rb
    clear hval rR rV rb
    by_cases hk4 : k < 4
    · have cb0 : wr.cell? ⟨N + 1, 0, none⟩ = some (.int .u64 b0) := cell_at rB 0
      have cb1 : wr.cell? ⟨N + 1, 1, none⟩ = some (.int .u64 b1) := cell_at rB 1
      have cb2 : wr.cell? ⟨N + 1, 2, none⟩ = some (.int .u64 b2) := cell_at rB 2
      have cb3 : wr.cell? ⟨N + 1, 3, none⟩ = some (.int .u64 b3) := cell_at rB 3
      have RB := hid rB
      clear rB
      obtain ⟨x, hx, hix⟩ : ∃ x : Nat, da.getD k 0 = x ∧ ∀ w, (Instr.index 39 (.agg #[.int .u64 (a0 : Int), .int .u64 (a1 : Int), .int .u64 (a2 : Int), .int .u64 (a3 : Int)]) (.int .i64 (k : Int))).run Try.prog w = .ok (.int .u64 (x : Int)) w := by
        obtain ⟨e0, e1, e2, e3⟩ := HA.out
        match k, hk4 with
        | 0, _ => exact ⟨a0, e0, fun w => idx4_0 _ _ _ _ w⟩
        | 1, _ => exact ⟨a1, e1, fun w => idx4_1 _ _ _ _ w⟩
        | 2, _ => exact ⟨a2, e2, fun w => idx4_2 _ _ _ _ w⟩
        | 3, _ => exact ⟨a3, e3, fun w => idx4_3 _ _ _ _ w⟩
      have HX := hid hx
      clear hx
      have hkd : decide ((k : Int) < 4) = true := decide_eq_true (by omega)
      go_wp2_with fail
      clear hix cb0 cb1 cb2 cb3
      go_loopw [29, 10] (fun i cy wq => ∃ (j cr : Nat) (wm : List Nat), j ≤ 4 ∧ i = .int .i64 (j : Int) ∧ cy = .int .u64 (cr : Int) ∧ cr < 18446744073709551616 ∧ wm.length = 8 ∧ All (2 ^ 64) wm ∧
          val (2 ^ 64) wm + cr * (2 ^ 64) ^ (k + j) = val (2 ^ 64) wl + x * val (2 ^ 64) (db.take j) * (2 ^ 64) ^ k ∧
          wq.heap[N + 1]? = some (.cells #[.int .u64 b0, .int .u64 b1, .int .u64 b2, .int .u64 b3] 59 (0, 0)) ∧ wq.heap[N + 1 + 1 + 1]? = some (.cells #[.int .u64 0, .int .u64 0, .int .u64 0, .int .u64 0] 59 (0, 0)) ∧
          wq.heap[N + 1 + 1 + 1 + 1]? = some (.cells (ints .u64 wm) 100 (0, 0)) ∧ Below W.heap.size W wq) (fun i _ _ => (4 - intOf i).toNat)
      case atStart => exact ⟨0, 0, wl, by omega, rfl, rfl, by omega, hwl, hall, by simp [DG.val], RB.out, RR.out, RV.out, RBE.out⟩
      case round =>
        obtain ⟨j, cr, wm, hj, rfl, rfl, hcr, hwm, hallm, hvm, qB, qR, qV, qb⟩ := hrel
        have HVM := hid hvm
        have QB := hid qB
        have QR := hid qR
        have QBE := hid qb
        clear hvm qB qR qb
        by_cases hj4 : j < 4
        · obtain ⟨y, hy, hiy⟩ : ∃ y : Nat, db.getD j 0 = y ∧ ∀ w, (Instr.index 39 (.agg #[.int .u64 (b0 : Int), .int .u64 (b1 : Int), .int .u64 (b2 : Int), .int .u64 (b3 : Int)]) (.int .i64 (j : Int))).run Try.prog w = .ok (.int .u64 (y : Int)) w := by
            obtain ⟨e0, e1, e2, e3⟩ := HB.out
            match j, hj4 with
            | 0, _ => exact ⟨b0, e0, fun w => idx4_0 _ _ _ _ w⟩
            | 1, _ => exact ⟨b1, e1, fun w => idx4_1 _ _ _ _ w⟩
            | 2, _ => exact ⟨b2, e2, fun w => idx4_2 _ _ _ _ w⟩
            | 3, _ => exact ⟨b3, e3, fun w => idx4_3 _ _ _ _ w⟩
          have hx64 : x < 18446744073709551616 := by rw [← HX.out, HDA.out]; exact (digs_all (B := 2 ^ 64) (by decide) a 4).getD (by rw [digs_length]; exact hk4)
          have hy64 : y < 18446744073709551616 := by rw [← hy, HDB.out]; exact (digs_all (B := 2 ^ 64) (by decide) b 4).getD (by rw [digs_length]; exact hj4)
          have hkj : k + j < wm.length := by omega
          have ht64 := hallm.getD hkj
          have cj := ints_cell qV hkj
          have hfv := free_at qV
          have hi0 : 0 ≤ (k : Int) + (j : Int) := by omega
          have hi1 : (k : Int) + (j : Int) < 8 := by omega
          have hi2 : ((k : Int) + (j : Int)).toNat = k + j := by omega
          generalize hT : wm.getD (k + j) 0 = T at *
          have HT := hid hT
          have HY := hid hy
          have QV := hid qV
          clear hT hy qV
          go_wp2_with fail
          refine (mul64_any x y _ (by omega) (by omega)).mono ?_
          rintro e w' ⟨rfl, rfl⟩
          obtain ⟨hi, lo, eh, el, m1, m2, m3, m4, m5, m6⟩ := mul64_facts (x : Int) (y : Int) (by omega) (by omega)
          rw [eh, el]
          have M5 := hid m5
          clear eh el m5
          have tok1 : True := trivial
          have tok2 : True := trivial
          go_wp2_with (first | (have _t := tok1; refine wpList_add64 rfl rfl _ _ _ rfl rfl rfl (by omega) (by omega) (by omega) (by omega) (by omega) ?_; intro d1 e1 da1 db1 ea1 eb1 pa1 pb1; obtain ⟨d1, rfl⟩ := Int.eq_ofNat_of_zero_le da1; obtain ⟨e1, rfl⟩ := Int.eq_ofNat_of_zero_le ea1; clear tok1 _t) | (have _t := tok2; refine wpList_add64 rfl rfl _ _ _ rfl rfl rfl (by omega) (by omega) (by omega) (by omega) (by omega) ?_; intro d2 e2 da2 db2 ea2 eb2 pa2 pb2; obtain ⟨d2, rfl⟩ := Int.eq_ofNat_of_zero_le da2; obtain ⟨e2, rfl⟩ := Int.eq_ofNat_of_zero_le ea2; clear tok2 _t))
          have he : d2 + 18446744073709551616 * (hi.toNat + e1 + e2) = x * y + T + cr := by
            have m := M5.out
            have m' : ((x * y : Nat) : Int) = lo + 18446744073709551616 * hi := by rw [Int.natCast_mul]; exact m
            clear m M5
            generalize x * y = xy at *
            omega
          have hst := mul_step (B := 2 ^ 64) (wl := wm) (j := k + j) (v := d2) (x := x) (y := y) (c := cr) (c' := hi.toNat + e1 + e2) (V0 := val (2 ^ 64) wl) (t := val (2 ^ 64) (db.take j)) (i := k) (k := j) hkj rfl HVM.out (by rw [HT.out]; exact he)
          rw [← HY.out, ← val_take_succ db j (by rw [HDB.out, digs_length]; exact hj4)] at hst
          have HST := hid hst
          clear hst
          have hci : hi + (e1 : Int) + (e2 : Int) = ((hi.toNat + e1 + e2 : Nat) : Int) := by omega
          go_roundw
          case rel =>
            refine ⟨j + 1, hi.toNat + e1 + e2, wm.set (k + j) d2, by omega, by go_num, congrArg (Value.int IntKind.u64) hci, by omega, by simp [hwm], All.set hallm _ (by omega), HST.out, at_setCell_other QB.out (by simp) _, at_setCell_other QR.out (by simp) _, ?_, QBE.out.setCell (by have := HN.out; simp; omega) _⟩
            exact ints_store QV.out _ _
          case measure => simp [intOf]; omega
        · have hj5 : j = 4 := by omega
          have hjd : decide ((j : Int) < 4) = false := decide_eq_false (by omega)
          have hvm := HVM.out
          rw [hj5, List.take_of_length_le (by rw [HDB.out, digs_length]; omega), HDB.out, val_digs, Nat.mod_eq_of_lt (a := b) (b := (2 ^ 64) ^ 4) (by unfold ordL at hb; omega)] at hvm
          have HVM2 := hid hvm
          have QV := hid qV
          clear hvm HVM qV hj5
          go_wp2_with fail
          go_loopw [16, 10] (fun i cy wq => ∃ (j cr : Nat) (wm : List Nat), k + 4 ≤ j ∧ j ≤ 8 ∧ i = .int .i64 (j : Int) ∧ cy = .int .u64 (cr : Int) ∧ cr < 18446744073709551616 ∧ wm.length = 8 ∧ All (2 ^ 64) wm ∧
              val (2 ^ 64) wm + cr * (2 ^ 64) ^ j = val (2 ^ 64) wl + x * b * (2 ^ 64) ^ k ∧
              wq.heap[N + 1]? = some (.cells #[.int .u64 b0, .int .u64 b1, .int .u64 b2, .int .u64 b3] 59 (0, 0)) ∧ wq.heap[N + 1 + 1 + 1]? = some (.cells #[.int .u64 0, .int .u64 0, .int .u64 0, .int .u64 0] 59 (0, 0)) ∧
              wq.heap[N + 1 + 1 + 1 + 1]? = some (.cells (ints .u64 wm) 100 (0, 0)) ∧ Below W.heap.size W wq) (fun i _ _ => (8 - intOf i).toNat)
          case atStart => exact ⟨k + 4, cr, wm, by omega, by omega, by go_num, rfl, hcr, hwm, hallm, HVM2.out, QB.out, QR.out, QV.out, QBE.out⟩
          case round =>
            obtain ⟨j, cr, wm, hj1, hj, rfl, rfl, hcr, hwm, hallm, hvm, qB, qR, qV, qb⟩ := hrel
            have HVM := hid hvm
            have QB := hid qB
            have QR := hid qR
            have QBE := hid qb
            clear hvm qB qR qb
            by_cases hj8 : j < 8
            · have hkj : j < wm.length := by omega
              have ht64 := hallm.getD hkj
              have cj := ints_cell qV hkj
              have hfv := free_at qV
              generalize hT : wm.getD j 0 = T at *
              have HT := hid hT
              have QV := hid qV
              clear hT qV
              have tok1 : True := trivial
              go_wp2_with (first | (have _t := tok1; refine wpList_add64 rfl rfl _ _ _ rfl rfl rfl (by omega) (by omega) (by omega) (by omega) (by omega) ?_; intro d1 e1 da1 db1 ea1 eb1 pa1 pb1; obtain ⟨d1, rfl⟩ := Int.eq_ofNat_of_zero_le da1; obtain ⟨e1, rfl⟩ := Int.eq_ofNat_of_zero_le ea1; clear tok1 _t))
              have he : d1 + 18446744073709551616 * e1 = T + cr := by omega
              have hst := carry_step (B := 2 ^ 64) (wl := wm) (j := j) (v := d1) (c := cr) (c' := e1) hkj HVM.out (by rw [HT.out]; exact he)
              have HST := hid hst
              clear hst
              go_roundw
              case rel =>
                refine ⟨j + 1, e1, wm.set j d1, by omega, by omega, by go_num, rfl, by omega, by simp [hwm], All.set hallm _ (by omega), HST.out, at_setCell_other QB.out (by simp) _, at_setCell_other QR.out (by simp) _, ?_, QBE.out.setCell (by have := HN.out; simp; omega) _⟩
                exact ints_store QV.out _ _
              case measure => simp [intOf]; omega
            · have hj9 : j = 8 := by omega
              subst hj9
              have hval2 : val (2 ^ 64) wl + x * b * (2 ^ 64) ^ k = c + val (2 ^ 64) (da.take (k + 1)) * b := by
                rw [HV.out, val_take_succ da k (by rw [HDA.out, digs_length]; exact hk4), HX.out, Nat.add_mul, Nat.mul_right_comm]
                omega
              have hbd : c + val (2 ^ 64) (da.take (k + 1)) * b < (2 ^ 64) ^ 8 := by
                refine row_bound ?_ (by unfold ordL at hb; omega) (by unfold ordL at hc; omega)
                have h1 := val_lt (B := 2 ^ 64) (l := da.take (k + 1)) (fun y hy => by rw [HDA.out] at hy; exact digs_all (by decide) a 4 y (List.mem_of_mem_take hy))
                refine Nat.lt_of_lt_of_le h1 (Nat.pow_le_pow_right (by decide) ?_)
                rw [List.length_take]; omega
              have hvm := HVM.out
              rw [hval2] at hvm
              obtain ⟨hc0, hv0⟩ := no_carry hbd hvm
              subst hc0
              have HV0 := hid hv0
              have QV := hid qV
              clear hv0 hvm hbd hval2 qV
              go_wp2_with fail
              exact ⟨⟨k + 1, wm, by omega, by go_num, hwm, hallm, HV0.out, QB.out, QR.out, QV.out, QBE.out⟩, by simp [intOf]; omega⟩
    · have hk5 : k = 4 := by omega
      have hkd : decide ((k : Int) < 4) = false := decide_eq_false (by omega)
      have hval := HV.out
      rw [hk5, List.take_of_length_le (by rw [HDA.out, digs_length]; omega), HDA.out, val_digs, Nat.mod_eq_of_lt (a := a) (b := (2 ^ 64) ^ 4) (by unfold ordL at ha; omega)] at hval
      have HV2 := hid hval
      have hwc : ∀ j, j < 8 → wr.cell? ⟨N + 1 + 1 + 1 + 1, 0 + j, none⟩ = some (.int .u64 ((wl.getD j 0 : Nat) : Int)) := fun j hj => by
        rw [Nat.zero_add]; exact ints_cell RV.out (by omega)
      have HW := hid hwc
      have HWL := hid hwl
      have RB := hid rB
      clear hval hwc HV hwl rB hk5
      go_wp2_with fail
      have hcall := of_any (N + 1 + 1 + 1 + 1) 0 8 wl wr hall (by rw [HWL.out]; omega) (by rw [HWL.out]; omega) (by rw [HWL.out]; omega) (by rw [HWL.out]; exact HW.out)
      rw [HWL.out, HV2.out, Nat.add_comm c] at hcall
      refine hcall.mono ?_
      clear hcall
      rintro e w' ⟨rfl, hb2⟩
      have ha2 := (hb2.block (N + 1 + 1 + 1) (lt_blk RR.out)).trans RR.out
      have hb3 := RBE.out.trans (hb2.mono RBE.out.size)
      generalize hn : (a * b + c) % ordL = n at *
      have hltn : n < ordL := by rw [← hn]; exact Nat.mod_lt _ (by decide)
      have HNN := hid hn
      clear hn hb2 HV2 HW HWL RBE RR RV
      obtain ⟨x0, x1, x2, x3, hqq, _⟩ := quad_w4 n (by unfold ordL at hltn; omega)
      rw [hqq]
      have HQQ := hid hqq
      clear hqq
      have r0 : w'.cell? ⟨N + 1 + 1 + 1, 0, none⟩ = some (.int .u64 0) := cell_at ha2 0
      have r1 : w'.cell? ⟨N + 1 + 1 + 1, 1, none⟩ = some (.int .u64 0) := cell_at ha2 1
      have r2 : w'.cell? ⟨N + 1 + 1 + 1, 2, none⟩ = some (.int .u64 0) := cell_at ha2 2
      have r3 : w'.cell? ⟨N + 1 + 1 + 1, 3, none⟩ = some (.int .u64 0) := cell_at ha2 3
      have hf := free_at ha2
      have hNle : W.heap.size ≤ N + 1 + 1 + 1 := by have := HN.out; omega
      clear ha2
      go_wp2_with fail
      refine bodyPost_ret (v := .agg #[.int .u64 x0, .int .u64 x1, .int .u64 x2, .int .u64 x3]) (by simp [results, Try.results37, go_sem, r0, r1, r2, r3]) rfl ⟨by rw [HNN.out, HQQ.out], ?_⟩
      exact (((hb3.setCell hNle _).setCell hNle _).setCell hNle _).setCell hNle _

end Go.Proofs.Ytceljjnohjnepaa

namespace Go.Proofs.Ytceljjnohjnepaa
open Go.RowKit DG

set_option maxRecDepth 100000 in
@[go_sem] theorem make0_32 (w : World) : (Instr.makeSlice 32 (.int .i64 0) (.int .i64 32)).run Try.prog w = .ok (.slice (some ⟨w.heap.size, 0, none⟩) 0 32) (w.alloc (.cells (ints .u8 (List.replicate 32 0)) 5)) := by kernel_rfl
set_option maxRecDepth 100000 in
theorem oconv_string (w : World) (b off len cap : Nat) (l : List UInt8) (hl : l.length = len) (hc : ∀ j, j < len → w.cell? ⟨b, off + j, none⟩ = some (.int .u8 ((l.getD j 0).toNat : Int))) :
    (convert 32 9 (.slice (some ⟨b, off, none⟩) len cap)).run Try.prog w = .ok (.string ⟨l.toArray⟩) w := by
  have h := run_convert_bytes_arg (P := Try.prog) w 32 5 Try.underlying32 Try.underlying5 b off len cap (l.map fun c => (c.toNat : Int)) (by simpa using hl) (fun i hi => by
    rw [hc i hi]; simp [hl, hi]) 9 Try.underlying9
  rw [h]
  congr 2
  unfold strOfNums
  congr 1
  rw [List.map_map]
  congr 1
  conv => rhs; rw [← List.map_id l]
  exact List.map_congr_left fun c _ => by simp

set_option maxRecDepth 100000 in
theorem u8s_step {n k j x : Nat} (hk : k < 4) (hj : j < 8) (hx : x = n / (2 ^ 64) ^ k % 2 ^ 64) :
    u8s ((natBytes n 32).take (8 * k + j)) ++ [.int .u8 ((x : Int) / 2 ^ (8 * j) % 256)] = u8s ((natBytes n 32).take (8 * k + (j + 1))) := by
  have hm : 8 * k + j < (natBytes n 32).length := by rw [natBytes_length]; omega
  rw [show 8 * k + (j + 1) = (8 * k + j) + 1 by omega, List.take_succ_eq_append_getElem hm]
  unfold u8s
  rw [List.map_append]
  congr 1
  simp only [List.map_cons, List.map_nil, List.cons.injEq, Value.int.injEq, true_and, and_true]
  have e1 : ((natBytes n 32)[8 * k + j]).toNat = n / 256 ^ (8 * k + j) % 256 := by
    have h1 : ((natBytes n 32).map (·.toNat)).getD (8 * k + j) 0 = n / 256 ^ (8 * k + j) % 256 := by rw [natBytes_map, digs_getD n (by omega)]
    rw [← h1]; simp [hm]
  rw [e1]
  have e2 : x / 2 ^ (8 * j) % 256 = n / 256 ^ (8 * k + j) % 256 := by
    have h256 : (256 : Nat) ^ (8 * k + j) = (2 ^ 64) ^ k * 2 ^ (8 * j) := by
      rw [show (256 : Nat) = 2 ^ 8 from rfl, ← Nat.pow_mul, ← Nat.pow_mul, ← Nat.pow_add]; congr 1; omega
    rw [hx, h256, ← Nat.div_div_eq_div_mul]
    generalize n / (2 ^ 64) ^ k = m
    have h3 : (2 : Nat) ^ 64 = 2 ^ (8 * j) * (256 * 2 ^ (56 - 8 * j)) := by
      rw [show (256 : Nat) = 2 ^ 8 from rfl, ← Nat.pow_add, ← Nat.pow_add]; congr 1; omega
    rw [h3, Nat.mod_mul, Nat.add_mul_div_left _ _ (Nat.two_pow_pos _), Nat.div_eq_of_lt (Nat.mod_lt _ (Nat.two_pow_pos _)), Nat.zero_add, Nat.mod_mul_right_mod]
  rw [← e2]
  have : ((x : Int) / (2 : Int) ^ (8 * j)) = ((x / 2 ^ (8 * j) : Nat) : Int) := by rw [Int.natCast_ediv, Int.natCast_pow]; rfl
  rw [this]; omega

set_option maxRecDepth 100000 in
set_option maxHeartbeats 1000000 in
theorem Bytes_any (n : Nat) (W : World) (_hn : n < 115792089237316195423570985008687907853269984665640564039457584007913129639936) :
    Calls Try.prog 66 #[.agg (quad n)] W fun e w' => e = .returned (.string ⟨(natBytes n 32).toArray⟩) ∧ Below W.heap.size W w' := by
  obtain ⟨i0, hi, hz0, hz1, hz2⟩ := info_parts info_u8
  rw [oquad_ints n]
  obtain ⟨da, hda⟩ : ∃ da, da = digs (2 ^ 64) n 4 := ⟨_, rfl⟩
  rw [← hda]
  have HDA := hid hda
  clear hda
  generalize ha0 : da.getD 0 0 = a0
  generalize ha1 : da.getD 1 0 = a1
  generalize ha2 : da.getD 2 0 = a2
  generalize ha3 : da.getD 3 0 = a3
  have HA := hid (And.intro ha0 (And.intro ha1 (And.intro ha2 ha3)))
  clear ha0 ha1 ha2 ha3
  go_enter Try.func66, Try.ntmps66
  go_wp2_with fail
  go_loopw [3, 10] (fun v i wr => ∃ k : Nat, k ≤ 4 ∧ i = .int .i64 (k : Int) ∧ wr.ownsRow W.heap.size 5 1 v (8 * k) (u8s ((natBytes n 32).take (8 * k))) ∧ Below W.heap.size W wr) (fun _ i _ => (4 - intOf i).toNat)
  case atStart =>
    refine ⟨0, by omega, rfl, ⟨rfl, .inr ⟨W.heap.size + 1, 32, _, rfl, by omega, alloc_at' (by simp) _, by omega, by decide, rfl, rfl⟩⟩, below_alloc (below_new _) _⟩
  case round =>
    obtain ⟨k, hk, rfl, hown, hb⟩ := hrel
    have HO := hid hown
    clear hown
    by_cases hk4 : k < 4
    · obtain ⟨x, hx, hix⟩ : ∃ x : Nat, da.getD k 0 = x ∧ ∀ w, (Instr.index 39 (.agg #[.int .u64 (a0 : Int), .int .u64 (a1 : Int), .int .u64 (a2 : Int), .int .u64 (a3 : Int)]) (.int .i64 (k : Int))).run Try.prog w = .ok (.int .u64 (x : Int)) w := by
        obtain ⟨e0, e1, e2, e3⟩ := HA.out
        match k, hk4 with
        | 0, _ => exact ⟨a0, e0, fun w => idx4_0 _ _ _ _ w⟩
        | 1, _ => exact ⟨a1, e1, fun w => idx4_1 _ _ _ _ w⟩
        | 2, _ => exact ⟨a2, e2, fun w => idx4_2 _ _ _ _ w⟩
        | 3, _ => exact ⟨a3, e3, fun w => idx4_3 _ _ _ _ w⟩
      have HX := hid hx
      clear hx
      have hkd : decide ((k : Int) < 4) = true := decide_eq_true (by omega)
      go_wp2_with fail
      go_loopw [3, 13] (fun v i wq => ∃ j : Nat, j ≤ 8 ∧ i = .int .i64 (j : Int) ∧ wq.ownsRow W.heap.size 5 1 v (8 * k + j) (u8s ((natBytes n 32).take (8 * k + j))) ∧ Below W.heap.size W wq) (fun _ i _ => (8 - intOf i).toNat)
      case atStart => exact ⟨0, by omega, rfl, HO.out, hb⟩
      case round =>
        obtain ⟨j, hj, rfl, hown, hb⟩ := hrel
        have HOJ := hid hown
        clear hown
        by_cases hj8 : j < 8
        · have hj0 : 0 ≤ (j : Int) * 8 := by omega
          have hjd : decide ((j : Int) < 8) = true := decide_eq_true (by omega)
          have hml : (8 * k + j) + 1 ≤ maxLen := by unfold maxLen; omega
          go_wp2_with (at_builtin; refine wpList_append_own _ rfl _ _ 32 rfl W.heap.size 5 i0 (.int .u8 0) 1 1 Try.underlying32 hi hz0 hz1 hz2 rfl (by decide) _ _ _ rfl (HOJ.out.alloc _) ⟨wr.heap.size, 0, none⟩ 1 1 [.int .u8 ((x : Int) / 2 ^ (8 * j) % 256)] rfl rfl ?c1 ?c2 hml ?c4 ?c5 ?_)
          case c1 => exact cell_one_new _ _ _
          case c2 => intro u hu; simp only [List.mem_cons, List.not_mem_nil, or_false] at hu; subst hu; rfl
          case c4 => omega
          case c5 => have := hb.size; simp; omega
          intro v' w1 hown' hgrow _
          have hb2 : Below W.heap.size W w1 := (below_alloc hb _).grown hgrow (by have := hb.size; simp; omega) (fun g hg => block_le HOJ.out hg)
          rw [u8s_step (n := n) (k := k) (j := j) (x := x) (by omega) hj8 (by rw [← HX.out, HDA.out, digs_getD n hk4])] at hown'
          have HO' := hid hown'
          clear hown' hgrow hml
          go_wp2_with fail
          go_roundw
          case rel => exact ⟨j + 1, by omega, by go_num, HO'.out, hb2⟩
          case measure => simp [intOf]; omega
        · have hj9 : j = 8 := by omega
          have hjd : decide ((j : Int) < 8) = false := decide_eq_false (by omega)
          have ho := HOJ.out
          rw [hj9, show 8 * k + 8 = 8 * (k + 1) by omega] at ho
          have HO2 := hid ho
          clear ho HOJ hj9
          go_wp2_with fail
          exact ⟨⟨k + 1, by omega, by go_num, HO2.out, hb⟩, by simp [intOf]; omega⟩
    · have hk5 : k = 4 := by omega
      subst hk5
      obtain ⟨_, h2⟩ := HO.out
      rcases h2 with ⟨_, h0⟩ | ⟨g, cap, cur, rfl, hg, hc, hle, _, hsz, hxs⟩
      · omega
      have hcv := oconv_string wr g 0 32 cap (natBytes n 32) (natBytes_length n 32) (fun j hj => by
        rw [Nat.zero_add, cell_at hc]
        have h3 : cur.toList[j]? = (u8s (natBytes n 32))[j]? := by
          have h4 : (cur.toList.take 32)[j]? = cur.toList[j]? := by rw [List.getElem?_take, if_pos hj]
          rw [← h4, show (32 : Nat) = 8 * 4 * 1 from rfl, hxs, List.take_of_length_le (by rw [natBytes_length]; omega)]
        rw [← Array.getElem?_toList, h3]
        unfold u8s
        have hjl : j < (natBytes n 32).length := by rw [natBytes_length]; exact hj
        simp [hjl])
      have hw0 : Hid True := trivial
      clear hxs hc HO
      go_wp2_with fail
      go_ret
      exact ⟨rfl, hb⟩

end Go.Proofs.Ytceljjnohjnepaa

namespace Go.Proofs.Ytceljjnohjnepaa
open Go Go.RowKit DG

/-- Four points. -/
def tb (a b c d : P4) : Array Value := pt a.x a.y a.z a.t true ++ pt b.x b.y b.z b.t true ++ pt c.x c.y c.z c.t true ++ pt d.x d.y d.z d.t true
section
variable (a b c d : P4)
set_option maxRecDepth 100000 in
@[go_sem] theorem tb_size : (tb a b c d).size = 68 := by unfold tb; simp only [Array.size_append, pt_size]
set_option maxRecDepth 100000 in
@[go_sem] theorem tb_one : ones (tb a b c d) = true := by
  unfold tb
  simp only [ones_append, pt_one, Bool.true_and]
set_option maxRecDepth 100000 in
@[go_sem] theorem tb_0 : (tb a b c d).extract 0 17 = pt a.x a.y a.z a.t true := by
  have e : tb a b c d = #[] ++ pt a.x a.y a.z a.t true ++ (pt b.x b.y b.z b.t true ++ (pt c.x c.y c.z c.t true ++ pt d.x d.y d.z d.t true)) := by unfold tb; simp only [Array.append_assoc, Array.empty_append]
  rw [e]; exact ext_at _ _ _ 0 17 rfl (pt_size _ _ _ _ _)
set_option maxRecDepth 100000 in
@[go_sem] theorem tb_1 : (tb a b c d).extract 17 34 = pt b.x b.y b.z b.t true := by
  have e : tb a b c d = pt a.x a.y a.z a.t true ++ pt b.x b.y b.z b.t true ++ (pt c.x c.y c.z c.t true ++ pt d.x d.y d.z d.t true) := by unfold tb; simp only [Array.append_assoc]
  rw [e]; exact ext_at _ _ _ 17 17 (pt_size _ _ _ _ _) (pt_size _ _ _ _ _)
set_option maxRecDepth 100000 in
@[go_sem] theorem tb_2 : (tb a b c d).extract 34 51 = pt c.x c.y c.z c.t true := by
  have e : tb a b c d = (pt a.x a.y a.z a.t true ++ pt b.x b.y b.z b.t true) ++ pt c.x c.y c.z c.t true ++ pt d.x d.y d.z d.t true := by unfold tb; simp only [Array.append_assoc]
  rw [e]; exact ext_at _ _ _ 34 17 (by simp only [Array.size_append, pt_size]) (pt_size _ _ _ _ _)
set_option maxRecDepth 100000 in
@[go_sem] theorem tb_3 : (tb a b c d).extract 51 68 = pt d.x d.y d.z d.t true := by
  have e : tb a b c d = (pt a.x a.y a.z a.t true ++ (pt b.x b.y b.z b.t true ++ pt c.x c.y c.z c.t true)) ++ pt d.x d.y d.z d.t true ++ #[] := by unfold tb; simp only [Array.append_assoc, Array.append_empty]
  rw [e]; exact ext_at _ _ _ 51 17 (by simp only [Array.size_append, pt_size]) (pt_size _ _ _ _ _)
end
set_option maxRecDepth 100000 in
theorem info_Tb : (Try.prog.info? 94).map (·.size) = some 68 := by kernel_rfl
   theorem exl_Tb {r : Operand → Value} {dst : Option Nat} {x : Operand} {t : TypeId} {pos : String} {af : Array Edge} {g : Option (Nat × Bool)} : execOp r ⟨dst, .load 94 x, t, pos, af, g⟩ = (do let v ← loadRow 94 (r x); pure (Next.value v)) := rfl
   theorem exs_Tb {r : Operand → Value} {dst : Option Nat} {x y : Operand} {t : TypeId} {pos : String} {af : Array Edge} {g : Option (Nat × Bool)} : execOp r ⟨dst, .store 94 x y, t, pos, af, g⟩ = (do storeRow 94 (r x) (r y); pure Next.skip) := rfl
   theorem ldr_Tb (b : Nat) (w : World) : (loadRow 94 (.pointer (some ⟨b, 0, none⟩))).run Try.prog w = match hget w b with | some (.cells c _ _) => if c.size = 68 then .ok (.agg c) w else stuckL Try.prog 94 b w | _ => stuckL Try.prog 94 b w := loadRow_run Try.underlying94 rfl info_Tb b w
   theorem str_Tb (b : Nat) (c' : Array Value) (w : World) : (storeRow 94 (.pointer (some ⟨b, 0, none⟩)) (.agg c')).run Try.prog w = match hget w b with | some (.cells c T (0, 0)) => if c.size = 68 then (if c'.size = 68 then (if ones c' = true then .ok () (blk w b (.cells c' T (0, 0))) else stuckS Try.prog 94 b (.agg c') w) else stuckS Try.prog 94 b (.agg c') w) else stuckS Try.prog 94 b (.agg c') w | _ => stuckS Try.prog 94 b (.agg c') w := storeRow_run info_Tb b c' w
set_option maxRecDepth 100000 in
theorem info_Sc : (Try.prog.info? 59).map (·.size) = some 4 := by kernel_rfl
                                                                                                                                                                                                                                                                                                                                                                                                                                                                                              theorem exl_Sc {r : Operand → Value} {dst : Option Nat} {x : Operand} {t : TypeId} {pos : String} {af : Array Edge} {g : Option (Nat × Bool)} : execOp r ⟨dst, .load 59 x, t, pos, af, g⟩ = (do let v ← loadRow 59 (r x); pure (Next.value v)) := rfl
                                                                                                                                                                                                                                                                                                                                                                                                                                                                                              theorem exs_Sc {r : Operand → Value} {dst : Option Nat} {x y : Operand} {t : TypeId} {pos : String} {af : Array Edge} {g : Option (Nat × Bool)} : execOp r ⟨dst, .store 59 x y, t, pos, af, g⟩ = (do storeRow 59 (r x) (r y); pure Next.skip) := rfl
                                                                                                                                                                                                                                                                                                                                                                                                                                                                                              theorem ldr_Sc (b : Nat) (w : World) : (loadRow 59 (.pointer (some ⟨b, 0, none⟩))).run Try.prog w = match hget w b with | some (.cells c _ _) => if c.size = 4 then .ok (.agg c) w else stuckL Try.prog 59 b w | _ => stuckL Try.prog 59 b w := loadRow_run Try.underlying59 rfl info_Sc b w
                                                                                                                                                                                                                                                                                                                                                                                                                                                                                              theorem str_Sc (b : Nat) (c' : Array Value) (w : World) : (storeRow 59 (.pointer (some ⟨b, 0, none⟩)) (.agg c')).run Try.prog w = match hget w b with | some (.cells c T (0, 0)) => if c.size = 4 then (if c'.size = 4 then (if ones c' = true then .ok () (blk w b (.cells c' T (0, 0))) else stuckS Try.prog 59 b (.agg c') w) else stuckS Try.prog 59 b (.agg c') w) else stuckS Try.prog 59 b (.agg c') w | _ => stuckS Try.prog 59 b (.agg c') w := storeRow_run info_Sc b c' w
set_option maxRecDepth 100000 in
theorem ldm_Pt (b off : Nat) (w : World) : (loadRow 42 (.pointer (some ⟨b, off, none⟩))).run Try.prog w = match hget w b with | some (.cells c _ _) => if off + 17 ≤ c.size then .ok (.agg (c.extract off (off + 17))) w else stuckM Try.prog 42 b off w | _ => stuckM Try.prog 42 b off w := loadMid_run Try.underlying42 rfl info_Pt b off w
set_option maxRecDepth 100000 in
@[go_sem] theorem pt_whole (x y z t : Nat) (i : Bool) : (pt x y z t i).extract 0 17 = pt x y z t i := by
  have h := pt_size x y z t i
  generalize pt x y z t i = A at *
  rw [← h]; exact Array.extract_size
def buildRowT (t : TypeId) (ps : Array (Nat × Value)) : Sem Value := Instr.build t ps
set_option maxRecDepth 100000 in
theorem exb_Tb {r : Operand → Value} {dst : Option Nat} {ps : Array (Nat × Operand)} {t : TypeId} {pos : String} {af : Array Edge} {g : Option (Nat × Bool)} : execOp r ⟨dst, .build 94 ps, t, pos, af, g⟩ = (do let v ← buildRowT 94 (ps.map fun (i, x) => (i, r x)); pure (Next.value v)) := rfl
set_option maxRecDepth 100000 in
theorem bld_tb (a b c d : P4) (w : World) : (buildRowT 94 #[(0, pv a), (1, pv b), (2, pv c), (3, pv d)]).run Try.prog w = .ok (.agg (tb a b c d)) w :=
  run_build w 94 _ _ (by kernel_rfl)
set_option maxRecDepth 100000 in
@[go_sem] theorem zc_size : Try.zeroCells94.size = 68 := by kernel_rfl
attribute [local go_sem ↓] exl_Elem exs_Elem exl_Pt exs_Pt exb_Pt exl_Tb exs_Tb exb_Tb exl_Sc exs_Sc
                                                                       attribute [local go_sem] ldm_Elem str_Elem ldr_Pt str_Pt to_quad0 pt_zero bld_pt bld_pt0 str_Tb bld_tb ldm_Pt ldr_Sc str_Sc to_quad0

set_option maxRecDepth 100000 in
theorem strbit {n j : Nat} {s : ByteArray} (hs : (⟨(natBytes n 32).toArray⟩ : ByteArray) = s) (hn : n < p2) (hj : j < 256) (h : j / 8 < s.size) : bits .and .u8 (((s[j / 8]).toNat : Int) / (2 : Int) ^ (j % 8)) 1 = ((bitN n j : Nat) : Int) := by
  rw [and1_shr8 _ _ (UInt8.toNat_lt _)]
  have hl : s.data.toList = natBytes n 32 := by rw [← hs]
  have h1 := bit_of_bytes (natBytes n 32) j (by rw [natBytes_length]; omega)
  rw [bytesNat_natBytes, Nat.mod_eq_of_lt (Nat.lt_of_lt_of_eq hn (by decide))] at h1
  unfold bitN
  rw [h1]
  have h2 : s[j / 8] = (natBytes n 32).getD (j / 8) 0 := by
    rw [← hl]
    have h3 : j / 8 < s.data.toList.length := by simpa using h
    rw [List.getD_eq_getElem?_getD, List.getElem?_eq_getElem h3, Option.getD_some]
    rfl
  rw [h2]

set_option maxRecDepth 100000 in
set_option maxHeartbeats 1000000 in
theorem pboth_no (x y z t m n : Nat) (W : World) : Calls Try.prog 31 #[.agg (pt x y z t false), .agg (quad m), .agg (quad n)] W fun r w' => r = .returned noPt ∧ Below W.heap.size W w' := by
  go_enter Try.func31, Try.ntmps31
  go_upto_region 1 with (fail)
  obtain ⟨w1, hw1⟩ : ∃ w1, (((W.alloc (.cells (pt x y z t false) 42)).alloc (.cells (quad m) 59)).alloc (.cells (quad n) 59)).alloc (.cells (pt 0 0 0 0 false) 42) = w1 := ⟨_, rfl⟩
  have kA := kept (show hget w1 (W.heap.size) = some (.cells (pt x y z t false) 42 (0, 0)) by rw [← hw1]; clear hw1; go_simp)
  have kR := kept (show hget w1 (W.heap.size + 1 + 1 + 1) = some (.cells (pt 0 0 0 0 false) 42 (0, 0)) by rw [← hw1]; clear hw1; go_simp)
  have b1 : Hid (Below W.heap.size W w1) := by rw [← hw1]; repeat (first | exact Below.refl _ _ | exact below_new _ | assumption | refine Below.drew ?_ | refine Below.drewN ?_ _ | refine below_alloc ?_ _ | refine below_blk' ?_ (by omega) _)
  rw [hw1]
  clear hw1
  try clear gA lA nA mA
  try clear jA
  have jA := kA.later
  obtain ⟨gA, lA, nA, mA⟩ := kA
  try clear gR lR nR mR
  try clear jR
  have jR := kR.later
  obtain ⟨gR, lR, nR, mR⟩ := kR
  have ci : w1.cell? ⟨W.heap.size, 16, none⟩ = some (.bool false) := (cell_at gA 16).trans (pt_is x y z t false)
  go_wp2_with fail
  refine bodyPost_ret (v := .agg (pt 0 0 0 0 false)) (results_cell_row Try.results31 _ _ (W.heap.size + 1 + 1 + 1) 42 (pt 0 0 0 0 false) (0, 0) _ (by rfl) (by rw [← hget_eq]; go_simp) Try.underlying42 rfl (by rw [info_Pt]; go_simp)) rfl ?_
  exact ⟨rfl, below_blk' b1.out (by omega) _⟩

set_option maxRecDepth 100000 in
set_option maxHeartbeats 4000000 in
theorem pboth_core (b p : P4) (m n : Nat) (W : World) (hB : ∀ w, Calls Try.prog 35 #[] w fun r w' => r = .returned (pv b) ∧ Below w.heap.size w w') (hb : b.bd) (hp : p.bd) (hm : m < p2) (hn : n < p2) : Calls Try.prog 31 #[pv p, .agg (quad m), .agg (quad n)] W fun r w' => r = .returned (pv (P4.both b p m n)) ∧ Below W.heap.size W w' := by
  obtain ⟨z, hz⟩ : ∃ z, P4.zero = z := ⟨_, rfl⟩
  have Z1 := hid (fun w => hz ▸ pzero_any w)
  have HZ := hid hz
  clear hz
  have B1 := hid hB
  clear hB
  have A1 := hid (fun w => padd_v p b w hp hb)
  obtain ⟨sm, hsm⟩ : ∃ s : ByteArray, ⟨(natBytes m 32).toArray⟩ = s := ⟨_, rfl⟩
  obtain ⟨sn, hsn⟩ : ∃ s : ByteArray, ⟨(natBytes n 32).toArray⟩ = s := ⟨_, rfl⟩
  have S1 := hid (fun w => hsm ▸ Bytes_any m w hm)
  have S2 := hid (fun w => hsn ▸ Bytes_any n w hn)
  have zm : sm.size = 32 := by rw [← hsm]; show (natBytes m 32).toArray.size = 32; simp [natBytes_length]
  have zn : sn.size = 32 := by rw [← hsn]; show (natBytes n 32).toArray.size = 32; simp [natBytes_length]
  have HSM := hid hsm
  have HSN := hid hsn
  clear hsm hsn
  go_enter Try.func31, Try.ntmps31
  go_upto_region 1 with (fail)
  obtain ⟨w1, hw1⟩ : ∃ w1, (((W.alloc (.cells (pt p.x p.y p.z p.t true) 42)).alloc (.cells (quad m) 59)).alloc (.cells (quad n) 59)).alloc (.cells (pt 0 0 0 0 false) 42) = w1 := ⟨_, rfl⟩
  have kA := kept (show hget w1 (W.heap.size) = some (.cells (pt p.x p.y p.z p.t true) 42 (0, 0)) by rw [← hw1]; clear hw1; go_simp)
  have kM := kept (show hget w1 (W.heap.size + 1) = some (.cells (quad m) 59 (0, 0)) by rw [← hw1]; clear hw1; go_simp)
  have kN := kept (show hget w1 (W.heap.size + 1 + 1) = some (.cells (quad n) 59 (0, 0)) by rw [← hw1]; clear hw1; go_simp)
  have kR := kept (show hget w1 (W.heap.size + 1 + 1 + 1) = some (.cells (pt 0 0 0 0 false) 42 (0, 0)) by rw [← hw1]; clear hw1; go_simp)
  have b1 : Hid (Below W.heap.size W w1) := by rw [← hw1]; repeat (first | exact Below.refl _ _ | exact below_new _ | assumption | refine Below.drew ?_ | refine Below.drewN ?_ _ | refine below_alloc ?_ _ | refine below_blk' ?_ (by omega) _)
  rw [hw1]
  clear hw1
  try clear gA lA nA mA
  try clear jA
  have jA := kA.later
  obtain ⟨gA, lA, nA, mA⟩ := kA
  try clear gM lM nM mM
  try clear jM
  have jM := kM.later
  obtain ⟨gM, lM, nM, mM⟩ := kM
  try clear gN lN nN mN
  try clear jN
  have jN := kN.later
  obtain ⟨gN, lN, nN, mN⟩ := kN
  try clear gR lR nR mR
  try clear jR
  have jR := kR.later
  obtain ⟨gR, lR, nR, mR⟩ := kR
  have ci : w1.cell? ⟨W.heap.size, 16, none⟩ = some (.bool true) := (cell_at gA 16).trans (pt_is _ _ _ _ _)
  go_upto_region 3 with (fail)
  clear ci jA jM jN jR
  have vM : ∀ x_ : LaterV w1, hget x_.w' (W.heap.size + 1) = some (.cells (quad m) 59 (0, 0)) := laterx_get gM (by simp)
  have vN : ∀ x_ : LaterV w1, hget x_.w' (W.heap.size + 1 + 1) = some (.cells (quad n) 59 (0, 0)) := laterx_get gN (by simp)
  have kR := lR
  refine wp_region_var [5] (fun _ => ⟨6, pt 0 0 0 0 false, pt z.x z.y z.z z.t true, 42⟩) [] (fun _ => ⟨0, #[], #[], 0⟩) (by kernel_rfl) (by kernel_rfl) (by kernel_rfl) (vsep_new (by kernel_rfl)) (fun e he => absurd he (by simp)) (fun hsep => ?_) (fun e he => absurd he (by simp))
  have HSEP := hid hsep
  clear hsep
  repeat (first | (refine wpV_plain0 HSEP.out (by kernel_rfl) (by rfl) (by rfl) (by kernel_rfl) (by kernel_rfl) (fun K hK => ?_); go_simp; refine hK _ ?_; clear hK K; try go_ints) | (refine wpV_plain0 HSEP.out (by kernel_rfl) (by rfl) (by rfl) (by kernel_rfl) (by kernel_rfl) (fun K hK => ?_); go_simp; (with_reducible refine ⟨_, fun x => Z1.out _, hK _ ?_⟩); clear hK K; try go_ints) | (refine wpV_plain0 HSEP.out (by kernel_rfl) (by rfl) (by rfl) (by kernel_rfl) (by kernel_rfl) (fun K hK => ?_); go_simp; (with_reducible refine ⟨_, fun x => S1.out _, hK _ ?_⟩); clear hK K; try go_ints) | (refine wpV_plain0 HSEP.out (by kernel_rfl) (by rfl) (by rfl) (by kernel_rfl) (by kernel_rfl) (fun K hK => ?_); go_simp; (with_reducible refine ⟨_, fun x => S2.out _, hK _ ?_⟩); clear hK K; try go_ints) | (refine wpV_make0 HSEP.out (by kernel_rfl) (by rfl) rfl (by rfl) (by kernel_rfl) (by kernel_rfl) (fun K hK => ⟨fun x => (by first | (go_simp; done) | (go_simp; rfl)), hK _ ?_⟩); clear hK K; try go_ints) | (refine wpV_store0 5 (by rfl) (by rfl) HSEP.out (by rfl) rfl (by kernel_rfl) (fun K hK => ⟨fun g bk_ x cs hg hcs hx => (by clear hK HSEP; rcases hcs with hcs | hcs <;> (rw [hcs] at hx; clear hcs; simp only [over, dstOf, List.getElem?_toArray, List.getElem?_cons_succ, List.getElem?_cons_zero, Option.bind_some, hg]; go_simp; done)), hK _ ?_⟩); clear hK K; try go_ints))
  refine wpGho_nil ?_
  intro gL xL h0L hnL haL hlL
  clear h0L hlL HSEP
  obtain ⟨v5, e5, l5, h5⟩ := hnL 5 (by simp)
  try simp at h5
  simp only [over, dstOf, List.getElem?_toArray, List.getElem?_cons_succ, List.getElem?_cons_zero, Option.bind_some, e5]
  have hxb := laterV_below xL
  have fA := laterx_get gA (by simp) xL
  have fR := laterx_get gR (by simp) xL
  clear hnL haL e5 vM vN
  generalize xL.w' = w2 at *
  have b2 := hid (below_to b1.out hxb)
  have b1s := b1.out.size
  clear hxb b1 gA lA nA mA gM lM nM mM gN lN nN mN gR lR nR mR S1 S2
  go_upto_region 4 with (fail)
  have vA : ∀ x_ : LaterV w2, hget x_.w' W.heap.size = some (.cells (pt p.x p.y p.z p.t true) 42 (0, 0)) := laterx_get fA (by simp)
  clear xL gL
  refine wp_region_var [7] (fun _ => ⟨8, Try.zeroCells94, tb z p b (p.add b), 94⟩) [] (fun _ => ⟨0, #[], #[], 0⟩) (by kernel_rfl) (by kernel_rfl) (by kernel_rfl) (vsep_new (by kernel_rfl)) (fun e he => absurd he (by simp)) (fun hsep => ?_) (fun e he => absurd he (by simp))
  have HSEP := hid hsep
  clear hsep
  repeat (first | (refine wpV_plain0 HSEP.out (by kernel_rfl) (by rfl) (by rfl) (by kernel_rfl) (by kernel_rfl) (fun K hK => ?_); go_simp; refine hK _ ?_; clear hK K; try go_ints) | (refine wpV_plain0 HSEP.out (by kernel_rfl) (by rfl) (by rfl) (by kernel_rfl) (by kernel_rfl) (fun K hK => ?_); go_simp; (with_reducible refine ⟨_, fun x => Z1.out _, hK _ ?_⟩); clear hK K; try go_ints) | (refine wpV_plain0 HSEP.out (by kernel_rfl) (by rfl) (by rfl) (by kernel_rfl) (by kernel_rfl) (fun K hK => ?_); go_simp; (with_reducible refine ⟨_, fun x => B1.out _, hK _ ?_⟩); clear hK K; try go_ints) | (refine wpV_plain0 HSEP.out (by kernel_rfl) (by rfl) (by rfl) (by kernel_rfl) (by kernel_rfl) (fun K hK => ?_); go_simp; (with_reducible refine ⟨_, fun x => A1.out _, hK _ ?_⟩); clear hK K; try go_ints) | (refine wpV_make0 HSEP.out (by kernel_rfl) (by rfl) rfl (by rfl) (by kernel_rfl) (by kernel_rfl) (fun K hK => ⟨fun x => (by first | (go_simp; done) | (go_simp; rfl)), hK _ ?_⟩); clear hK K; try go_ints) | (refine wpV_store0 7 (by rfl) (by rfl) HSEP.out (by rfl) rfl (by kernel_rfl) (fun K hK => ⟨fun g bk_ x cs hg hcs hx => (by clear hK HSEP; rcases hcs with hcs | hcs <;> (rw [hcs] at hx; clear hcs; simp only [over, dstOf, List.getElem?_toArray, List.getElem?_cons_succ, List.getElem?_cons_zero, Option.bind_some, hg]; go_simp; done)), hK _ ?_⟩); clear hK K; try go_ints))
  refine wpGho_nil ?_
  intro gL xL h0L hnL haL hlL
  clear h0L hlL HSEP
  obtain ⟨v7, e7, l7, h7⟩ := hnL 7 (by simp)
  try simp at h7
  simp only [over, dstOf, List.getElem?_toArray, List.getElem?_cons_succ, List.getElem?_cons_zero, Option.bind_some, e7]
  have hxb := laterV_below xL
  have fQ := laterx_get h5 (by simp) xL
  have fR2 := laterx_get fR (by simp) xL
  have lQ2 := hget_lt h5
  clear hnL haL e7 vA fA fR h5
  generalize xL.w' = w3 at *
  have b3 := hid (below_to b2.out hxb)
  have b2s := b2.out.size
  clear hxb b2 Z1 B1 A1 xL gL
  have r1 : (v5 = v7) = False := by simp; omega
  have r2 : (v7 = v5) = False := by simp; omega
  have r3 : (v5 = W.heap.size + 1 + 1 + 1) = False := by simp; omega
  have r4 : (W.heap.size + 1 + 1 + 1 = v5) = False := by simp; omega
  have r5 : (v7 = W.heap.size + 1 + 1 + 1) = False := by simp; omega
  have r6 : (W.heap.size + 1 + 1 + 1 = v7) = False := by simp; omega
  have r7 : W.heap.size ≤ v5 := by omega
  clear l5 l7 lQ2 b1s b2s kR
  obtain ⟨d, hd⟩ : ∃ d, p.add b = d := ⟨_, rfl⟩
  rw [hd] at h7
  have HD := hid hd
  clear hd
  go_wp2_with fail
  go_loopw [11] (fun i wr => ∃ k : Nat, ∃ q : P4, k ≤ 256 ∧ i = .int .i64 (255 - (k : Int)) ∧ P4.bothN b p m n k = q ∧ hget wr v5 = some (.cells (pt q.x q.y q.z q.t true) 42 (0, 0)) ∧ hget wr v7 = some (.cells (tb z p b d) 94 (0, 0)) ∧ hget wr (W.heap.size + 1 + 1 + 1) = some (.cells (pt 0 0 0 0 false) 42 (0, 0)) ∧ Below W.heap.size W wr) (fun i _ => (intOf i + 1).toNat)
  case atStart => exact ⟨0, z, by omega, rfl, HZ.out, fQ, h7, fR2, b3.out⟩
  case round =>
    clear fQ h7 fR2 b3
    obtain ⟨k, q, hk, rfl, hq, gQ, gT, gR, hb3⟩ := hrel
    have HQ := hid hq
    have b3 := hid hb3
    clear hq hb3
    by_cases hlt : k < 256
    · obtain ⟨j, hj⟩ : ∃ j : Nat, j = 255 - k := ⟨_, rfl⟩
      have hjk : k + j = 255 := by omega
      have hjI : (255 : Int) - (k : Int) = (j : Int) := by omega
      rw [hjI]
      have hge : decide ((0 : Int) ≤ (j : Int)) = true := decide_eq_true (by omega)
      have hi1 : 0 ≤ (j : Int) / 8 := by omega
      have hi2 : (j : Int) / 8 < 32 := by omega
      have hi3 : ((j : Int) / 8).toNat = j / 8 := by omega
      have hm1 : j / 8 < sm.size := by omega
      have hn1 : j / 8 < sn.size := by omega
      have hj255 : 255 - k = j := hj.symm
      have HJ := hid hj255
      have HJK := hid hjk
      clear hj hj255 hjk hjI
      have xm := strbit HSM.out hm (j := j) (by have := HJK.out; omega) hm1
      have xn := strbit HSN.out hn (j := j) (by have := HJK.out; omega) hn1
      have ym := bitN_lt m j
      have yn := bitN_lt n j
      obtain ⟨x, hx⟩ : ∃ x, bitN m j = x := ⟨_, rfl⟩
      obtain ⟨y, hy⟩ : ∃ y, bitN n j = y := ⟨_, rfl⟩
      rw [hx] at xm ym
      rw [hy] at xn yn
      have HX := hid hx
      have HY := hid hy
      clear hx hy
      go_wp2_with fail
      have jQ := Kept.later (kept gQ)
      have jT := Kept.later (kept gT)
      have jR := Kept.later (kept gR)
      refine wp_region_later (by kernel_rfl) (by kernel_rfl) ?_
      repeat ((go_big_quiet_step (fail)))
      refine wpQuiet_nil ?_
      intro wL hwL
      obtain ⟨⟨w8, hL⟩, e8⟩ := hwL
      change wL = w8 at e8
      subst e8
      have b4 := hid (below_to b3.out hL)
      have fQ : hget wL v5 = some (.cells (pt q.x q.y q.z q.t true) 42 (0, 0)) := jQ ⟨_, hL⟩
      have fT : hget wL v7 = some (.cells (tb z p b d) 94 (0, 0)) := jT ⟨_, hL⟩
      have fR : hget wL (W.heap.size + 1 + 1 + 1) = some (.cells (pt 0 0 0 0 false) 42 (0, 0)) := jR ⟨_, hL⟩
      clear b3 gQ gT gR jQ jT jR
      go_upto_region 9 with (fail)
      generalize wL = w4 at *
      have hw4 := b4.out.size
      clear hL
      have bq : q.bd := HQ.out ▸ P4.bothN_bd hb hp m n k
      have bq2 := P4.twice_bd bq
      have bz : z.bd := HZ.out ▸ P4.zero_ok.bd
      have bd : d.bd := HD.out ▸ P4.add_bd hp hb
      have hwr : IntKind.i64.wrap ((j : Int) - 1) = (j : Int) - 1 := IntWalk.i64_in _ (by have := HJK.out; omega)
      have T1 := hid (fun w => ptwice_v q w bq)
      have hcnt : (j : Int) - 1 = 255 - ((k + 1 : Nat) : Int) := by have := HJK.out; omega
      have hnext : P4.bothN b p m n (k + 1) = q.twice.add (P4.tab b p x y) := by
        show (P4.bothN b p m n k).twice.add (P4.tab b p (bitN m (255 - k)) (bitN n (255 - k))) = _
        rw [HQ.out, HJ.out, HX.out, HY.out]
      have HN := hid hnext
      have HCNT := hid hcnt
      clear hnext hcnt HX HY
      have jQ := Kept.later (kept fQ)
      have jT := Kept.later (kept fT)
      have jR := Kept.later (kept fR)
      have kb := hget_lt fQ
      have c0 : ((0 : Nat) : Int) = 0 := rfl
      have c1 : ((1 : Nat) : Int) = 1 := rfl
      have o0 : bits .or .u8 0 0 = 0 := by decide
      have o1 : bits .or .u8 1 0 = 1 := by decide
      have o2 : bits .or .u8 0 2 = 2 := by decide
      have o3 : bits .or .u8 1 2 = 3 := by decide
      clear fQ fT fR
      obtain rfl | rfl : x = 0 ∨ x = 1 := by omega
      · obtain rfl | rfl : y = 0 ∨ y = 1 := by omega
        · try simp only [c0]
          try simp only [c1]
          have A2 := hid (fun w => padd_v q.twice z w bq2 bz)
          refine wp_region_later_tail 9 (by kernel_rfl) (by kernel_rfl) ?_
          simp only [List.take_succ_cons, List.take_zero, List.drop_succ_cons, List.drop_zero]
          repeat ((go_big_quiet_step ((first | (go_at_call 29; with_reducible exact calls_later (T1.out _)) | (go_at_call 27; with_reducible exact calls_later (A2.out _))))))
          refine wpQuiet_nil ?_
          intro wL hwL
          obtain ⟨⟨w8, hL⟩, e8⟩ := hwL
          change wL = w8 at e8
          subst e8
          obtain ⟨gQ, lQ, nQ, mQ⟩ := kept (jQ ⟨_, hL⟩)
          obtain ⟨gT, lT, nT, mT⟩ := kept (jT ⟨_, hL⟩)
          obtain ⟨gR, lR, nR, mR⟩ := kept (jR ⟨_, hL⟩)
          go_wp2_with fail
          exact ⟨⟨k + 1, q.twice.add z, by omega, congrArg (Value.int .i64) HCNT.out, HN.out.trans (congrArg _ HZ.out), by go_simp, by go_simp, by go_simp, below_blk' (below_to b4.out hL) r7 _⟩, by first | (simp [intOf]; done) | (simp [intOf]; omega)⟩
        · try simp only [c0]
          try simp only [c1]
          have A2 := hid (fun w => padd_v q.twice b w bq2 hb)
          refine wp_region_later_tail 9 (by kernel_rfl) (by kernel_rfl) ?_
          simp only [List.take_succ_cons, List.take_zero, List.drop_succ_cons, List.drop_zero]
          repeat ((go_big_quiet_step ((first | (go_at_call 29; with_reducible exact calls_later (T1.out _)) | (go_at_call 27; with_reducible exact calls_later (A2.out _))))))
          refine wpQuiet_nil ?_
          intro wL hwL
          obtain ⟨⟨w8, hL⟩, e8⟩ := hwL
          change wL = w8 at e8
          subst e8
          obtain ⟨gQ, lQ, nQ, mQ⟩ := kept (jQ ⟨_, hL⟩)
          obtain ⟨gT, lT, nT, mT⟩ := kept (jT ⟨_, hL⟩)
          obtain ⟨gR, lR, nR, mR⟩ := kept (jR ⟨_, hL⟩)
          go_wp2_with fail
          exact ⟨⟨k + 1, q.twice.add b, by omega, congrArg (Value.int .i64) HCNT.out, HN.out.trans (congrArg _ rfl), by go_simp, by go_simp, by go_simp, below_blk' (below_to b4.out hL) r7 _⟩, by first | (simp [intOf]; done) | (simp [intOf]; omega)⟩
      · obtain rfl | rfl : y = 0 ∨ y = 1 := by omega
        · try simp only [c0]
          try simp only [c1]
          have A2 := hid (fun w => padd_v q.twice p w bq2 hp)
          refine wp_region_later_tail 9 (by kernel_rfl) (by kernel_rfl) ?_
          simp only [List.take_succ_cons, List.take_zero, List.drop_succ_cons, List.drop_zero]
          repeat ((go_big_quiet_step ((first | (go_at_call 29; with_reducible exact calls_later (T1.out _)) | (go_at_call 27; with_reducible exact calls_later (A2.out _))))))
          refine wpQuiet_nil ?_
          intro wL hwL
          obtain ⟨⟨w8, hL⟩, e8⟩ := hwL
          change wL = w8 at e8
          subst e8
          obtain ⟨gQ, lQ, nQ, mQ⟩ := kept (jQ ⟨_, hL⟩)
          obtain ⟨gT, lT, nT, mT⟩ := kept (jT ⟨_, hL⟩)
          obtain ⟨gR, lR, nR, mR⟩ := kept (jR ⟨_, hL⟩)
          go_wp2_with fail
          exact ⟨⟨k + 1, q.twice.add p, by omega, congrArg (Value.int .i64) HCNT.out, HN.out.trans (congrArg _ rfl), by go_simp, by go_simp, by go_simp, below_blk' (below_to b4.out hL) r7 _⟩, by first | (simp [intOf]; done) | (simp [intOf]; omega)⟩
        · try simp only [c0]
          try simp only [c1]
          have A2 := hid (fun w => padd_v q.twice d w bq2 bd)
          refine wp_region_later_tail 9 (by kernel_rfl) (by kernel_rfl) ?_
          simp only [List.take_succ_cons, List.take_zero, List.drop_succ_cons, List.drop_zero]
          repeat ((go_big_quiet_step ((first | (go_at_call 29; with_reducible exact calls_later (T1.out _)) | (go_at_call 27; with_reducible exact calls_later (A2.out _))))))
          refine wpQuiet_nil ?_
          intro wL hwL
          obtain ⟨⟨w8, hL⟩, e8⟩ := hwL
          change wL = w8 at e8
          subst e8
          obtain ⟨gQ, lQ, nQ, mQ⟩ := kept (jQ ⟨_, hL⟩)
          obtain ⟨gT, lT, nT, mT⟩ := kept (jT ⟨_, hL⟩)
          obtain ⟨gR, lR, nR, mR⟩ := kept (jR ⟨_, hL⟩)
          go_wp2_with fail
          exact ⟨⟨k + 1, q.twice.add d, by omega, congrArg (Value.int .i64) HCNT.out, HN.out.trans (congrArg _ HD.out), by go_simp, by go_simp, by go_simp, below_blk' (below_to b4.out hL) r7 _⟩, by first | (simp [intOf]; done) | (simp [intOf]; omega)⟩
    · have hkn : k = 256 := by omega
      subst hkn
      have hlt2 : decide ((0 : Int) ≤ 255 - ((256 : Nat) : Int)) = false := by decide
      have hq2 : P4.both b p m n = q := HQ.out
      have HQ2 := hid hq2
      clear hq2 HQ
      have lR := hget_lt gR
      go_wp2_with fail
      refine bodyPost_ret (v := .agg (pt q.x q.y q.z q.t true)) (results_cell_row Try.results31 _ _ (W.heap.size + 1 + 1 + 1) 42 (pt q.x q.y q.z q.t true) (0, 0) _ (by rfl) (by rw [← hget_eq]; go_simp) Try.underlying42 rfl (by rw [info_Pt]; go_simp)) rfl ?_
      exact ⟨by rw [HQ2.out], below_blk' b3.out (by omega) _⟩
set_option maxRecDepth 100000 in
theorem pboth_v (p : P4) (m n : Nat) (W : World) (hp : p.bd) (hm : m < p2) (hn : n < p2) : Calls Try.prog 31 #[pv p, .agg (quad m), .agg (quad n)] W fun r w' => r = .returned (pv (P4.both (dP bsB) p m n)) ∧ Below W.heap.size W w' :=
  pboth_core (dP bsB) p m n W pbase_any P4.base_bd hp hm hn

end Go.Proofs.Ytceljjnohjnepaa

namespace Go.Proofs.Ytceljjnohjnepaa
open EG

def rm (a b : Nat) : Nat := a * b % pP
def ra (a b : Nat) : Nat := (a + b) % pP
def rs (a b : Nat) : Nat := (a + (pP - b)) % pP
set_option maxRecDepth 100000 in
theorem rm_lt (a b : Nat) : rm a b < pP := Nat.mod_lt _ (by decide)
set_option maxRecDepth 100000 in
theorem ra_lt (a b : Nat) : ra a b < pP := Nat.mod_lt _ (by decide)
set_option maxRecDepth 100000 in
theorem rs_lt (a b : Nat) : rs a b < pP := Nat.mod_lt _ (by decide)
set_option maxRecDepth 100000 in
theorem fprm (a b : Nat) : fp (rm a b) = fp a * fp b := by rw [← fp_mul]; exact fp_mod _
set_option maxRecDepth 100000 in
theorem fpra (a b : Nat) : fp (ra a b) = fp a + fp b := by rw [← fp_add]; exact fp_mod _
set_option maxRecDepth 100000 in
theorem fprs {a b : Nat} (hb : b < pP) : fp (rs a b) = fp a - fp b := by
  have h : fp (rs a b) + fp b = fp a := by
    unfold rs
    rw [show pP = NT.P from rfl, fp_mod, ← fp_add, fp_eq, Nat.add_assoc, Nat.sub_add_cancel (show b ≤ NT.P from Nat.le_of_lt hb), Nat.add_mod_right]
  rw [← h]
  grind
set_option maxRecDepth 100000 in
theorem fpri {a : Nat} (h : a < pP) : fp (rInv a) = finv (fp a) := by
  have e : invN a % pP = rInv a := by rw [inv_mod, Nat.mod_eq_of_lt h]
  rw [← fpi a, ← e]
  exact (fp_mod _)
set_option maxRecDepth 100000 in
theorem fp_lt {a : Nat} (h : a < pP) : (fp a).val = a := Nat.mod_eq_of_lt h
set_option maxRecDepth 100000 in
theorem dN_pP : dN < pP := by decide +kernel

/-- The three numbers of a point. -/
structure R3 where
  x : Nat
  y : Nat
  z : Nat
structure R3.bd (s : R3) : Prop where
  x : s.x < pP
  y : s.y < pP
  z : s.z < pP
structure R3.ok (s : R3) (p : Pt cv) : Prop where
  bd : s.bd
  prj : Prj (fp s.x) (fp s.y) (fp s.z) p
namespace R3
def zero : R3 := ⟨0, 1, 1⟩
def aA (s u : R3) : Nat := rm s.z u.z
def aB (s u : R3) : Nat := rm (aA s u) (aA s u)
def aC (s u : R3) : Nat := rm s.x u.x
def aD (s u : R3) : Nat := rm s.y u.y
def aE (s u : R3) : Nat := rm (rm dN (aC s u)) (aD s u)
def aF (s u : R3) : Nat := rs (aB s u) (aE s u)
def aG (s u : R3) : Nat := ra (aB s u) (aE s u)
def aH (s u : R3) : Nat := rs (rs (rm (ra s.x s.y) (ra u.x u.y)) (aC s u)) (aD s u)
def add (s u : R3) : R3 := ⟨rm (rm (aA s u) (aF s u)) (aH s u), rm (rm (aA s u) (aG s u)) (ra (aD s u) (aC s u)), rm (aF s u) (aG s u)⟩
def same (s u : R3) : Bool := decide (rm s.x u.z = rm u.x s.z) && decide (rm s.y u.z = rm u.y s.z)
def on (s : R3) : Bool := decide (rm (rs (rm s.y s.y) (rm s.x s.x)) (rm s.z s.z) = ra (rm (rm s.z s.z) (rm s.z s.z)) (rm (rm dN (rm s.x s.x)) (rm s.y s.y)))
def bytes (s : R3) : ByteArray := encB (rm s.y (rInv s.z)) (decide (rm s.x (rInv s.z) % 2 = 1))
def timesN (s : R3) (n : Nat) : Nat → R3
  | 0 => zero
  | k + 1 => if bitN n (255 - k) = 1 then ((timesN s n k).add (timesN s n k)).add s else (timesN s n k).add (timesN s n k)
def times (s : R3) (n : Nat) : R3 := timesN s n 256
variable {s u : R3} {p q : Pt cv}
set_option maxRecDepth 100000 in
theorem zero_bd : zero.bd := ⟨by decide, by decide, by decide⟩
set_option maxRecDepth 100000 in
theorem add_bd (s u : R3) : (s.add u).bd := ⟨rm_lt _ _, rm_lt _ _, rm_lt _ _⟩
set_option maxRecDepth 100000 in
theorem zero_ok : zero.ok Pt.zero := ⟨zero_bd, Prj.zero⟩
set_option maxRecDepth 100000 in
theorem add_ok (h : s.ok p) (k : u.ok q) : (s.add u).ok (p.add q) := by
  refine ⟨add_bd s u, ?_⟩
  have := Prj.add h.prj k.prj (a := fp (aA s u)) (c := fp (aC s u)) (d := fp (aD s u)) (e := fp (aE s u)) (fprm _ _) (fprm _ _) (fprm _ _) (by unfold aE; rw [fprm, fprm]; rfl)
  show Prj (fp (rm _ _)) (fp (rm _ _)) (fp (rm _ _)) _
  have eB : fp (aB s u) = fp (aA s u) * fp (aA s u) := fprm _ _
  rw [fprm, fprm, fprm, fprm, fprm, fpra]
  unfold aF aG aH
  rw [fprs (show aE s u < pP from rm_lt _ _), fpra, fprs (show aD s u < pP from rm_lt _ _), fprs (show aC s u < pP from rm_lt _ _), fprm, fpra, fpra, eB]
  exact this
set_option maxRecDepth 100000 in
theorem timesN_bd (_h : s.bd) (n : Nat) : ∀ k, (timesN s n k).bd
  | 0 => zero_bd
  | k + 1 => by unfold timesN; split <;> exact add_bd _ _
set_option maxRecDepth 100000 in
theorem times_bd (h : s.bd) (n : Nat) : (times s n).bd := timesN_bd h n 256
set_option maxRecDepth 100000 in
theorem timesN_ok (h : s.ok p) {n : Nat} (hn : n < 2 ^ 256) : ∀ k, k ≤ 256 → (timesN s n k).ok (Pt.mul (n / 2 ^ (256 - k)) p)
  | 0, _ => by
    rw [Nat.div_eq_of_lt hn]
    exact zero_ok
  | k + 1, hk => by
    have ih := timesN_ok h hn k (by omega)
    have h2 := add_ok ih ih
    rw [show 256 - (k + 1) = 255 - k by omega, P4.bit_split n (by omega), P4.mul_bit]
    unfold timesN
    have hb := bitN_lt n (255 - k)
    split
    · rename_i h1
      rw [h1, show Pt.mul 1 p = p by rw [show (1 : Nat) = 0 + 1 from rfl, Pt.mul_succ]; exact Pt.zero_add p]
      exact add_ok h2 h
    · rename_i h1
      rw [show bitN n (255 - k) = 0 by omega, show Pt.mul 0 p = Pt.zero from rfl, Pt.add_zero]
      exact h2
set_option maxRecDepth 100000 in
theorem times_ok (h : s.ok p) {n : Nat} (hn : n < 2 ^ 256) : (times s n).ok (Pt.mul n p) := by
  have := timesN_ok h hn 256 (by omega)
  rw [Nat.sub_self, Nat.pow_zero, Nat.div_one] at this
  exact this
set_option maxRecDepth 100000 in
theorem fp_inj {a b : Nat} (ha : a < pP) (hb : b < pP) : fp a = fp b ↔ a = b := by
  rw [fp_same, Nat.mod_eq_of_lt ha, Nat.mod_eq_of_lt hb]
set_option maxRecDepth 100000 in
theorem same_iff (h : s.ok p) (k : u.ok q) : s.same u = true ↔ p = q := by
  have := Prj.same h.prj k.prj
  unfold same
  rw [← fprm, ← fprm, ← fprm, ← fprm, fp_inj (rm_lt _ _) (rm_lt _ _), fp_inj (rm_lt _ _) (rm_lt _ _)] at this
  rw [← Bool.decide_and, decide_eq_true_eq]
  exact this
set_option maxRecDepth 100000 in
theorem ok_bytes (h : s.ok p) : s.bytes = ptB p := by
  have := Prj.coords h.prj
  rw [show cv.inv (fp s.z) = fp (rInv s.z) from (fpri h.bd.z).symm, ← fprm, ← fprm] at this
  unfold bytes ptB
  rw [← this.1, ← this.2, fp_lt (rm_lt _ _), fp_lt (rm_lt _ _)]
set_option maxRecDepth 100000 in
theorem ok_on (h : s.ok p) : s.on = true := by
  unfold on
  rw [decide_eq_true_eq, ← fp_inj (rm_lt _ _) (ra_lt _ _), fprm, fprs (rm_lt _ _), fprm, fprm, fprm, fpra, fprm, fprm, fprm, fprm, fprm, fprm]
  have on := p.on
  unfold onC at on
  rw [cvD] at on
  rw [h.prj.hx, h.prj.hy]
  generalize fp s.z = z at *
  generalize fp dN = d at *
  have e : (p.y * z * (p.y * z) - p.x * z * (p.x * z)) * (z * z) = (p.y * p.y - p.x * p.x) * (z * z * (z * z)) := by clear on; grind
  rw [e, on]
  clear e on
  grind
end R3

end Go.Proofs.Ytceljjnohjnepaa
