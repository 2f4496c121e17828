/- The walk of the order's MulAdd. The walk of the order's Bytes. The curve: multiples of two points, bit by bit. Words as UInt64: what the model's arithmetic on their numbers is. The digest as a plain function (SHA-512). -/
import Derived.Test.YtceljjnohjnepaaDoorM10
import Derived.Laws.CopyOwn
import Derived.WideShapes
import Derived.Test.YtceljjnohjnepaaDoorM03
import Derived.Test.YtceljjnohjnepaaDoorM01
import Derived.Laws.BitsAllLaws
namespace Go.Proofs.YtceljjnohjnepaaDoor
open Go.RowKit DG

set_option maxRecDepth 100000 in
set_option maxHeartbeats 1000000 in
theorem MulAdd_any (a b c : Nat) (W : World) (ha : a < ordL) (hb : b < ordL) (hc : c < ordL) :
    Calls Tryd.prog 14 #[.agg (quad a), .agg (quad b), .agg (quad c)] W fun e w' => e = .returned (.agg (quad ((a * b + c) % ordL))) ∧ Below W.heap.size W w' := by
  rw [oquad_ints a, oquad_ints b, oquad_ints c]
  obtain ⟨da, hda⟩ : ∃ da, da = digs (2 ^ 64) a 4 := ⟨_, rfl⟩
  obtain ⟨db, hdb⟩ : ∃ db, db = digs (2 ^ 64) b 4 := ⟨_, rfl⟩
  obtain ⟨dc, hdc⟩ : ∃ dc, dc = digs (2 ^ 64) c 4 := ⟨_, rfl⟩
  rw [← hda, ← hdb, ← hdc]
  have HDA := hid hda
  have HDB := hid hdb
  have HDC := hid hdc
  clear hda hdb hdc
  generalize ha0 : da.getD 0 0 = a0
  generalize ha1 : da.getD 1 0 = a1
  generalize ha2 : da.getD 2 0 = a2
  generalize ha3 : da.getD 3 0 = a3
  generalize hb0 : db.getD 0 0 = b0
  generalize hb1 : db.getD 1 0 = b1
  generalize hb2 : db.getD 2 0 = b2
  generalize hb3 : db.getD 3 0 = b3
  generalize hc0 : dc.getD 0 0 = c0
  generalize hc1 : dc.getD 1 0 = c1
  generalize hc2 : dc.getD 2 0 = c2
  generalize hc3 : dc.getD 3 0 = c3
  have HA := hid (And.intro ha0 (And.intro ha1 (And.intro ha2 ha3)))
  have HB := hid (And.intro hb0 (And.intro hb1 (And.intro hb2 hb3)))
  have HC := hid (And.intro hc0 (And.intro hc1 (And.intro hc2 hc3)))
  clear ha0 ha1 ha2 ha3 hb0 hb1 hb2 hb3 hc0 hc1 hc2 hc3
  go_enter Tryd.func14, Tryd.ntmps14
  go_wp2_with fail
  refine still_tail 3 (by kernel_rfl) (by kernel_rfl) ?_
  simp only [List.take_succ_cons, List.take_zero, List.drop_succ_cons, List.drop_zero]
  repeat (first | (refine wpStill_step (fun K hK => ?_); go_simp; refine hK _ ?_; clear hK K; try go_ints))
  refine wpStill_nil ?_
  obtain ⟨w1, hw1⟩ : ∃ w1, w1 = (((((W.alloc (.cells #[.int .u64 a0, .int .u64 a1, .int .u64 a2, .int .u64 a3] 37)).alloc (.cells #[.int .u64 b0, .int .u64 b1, .int .u64 b2, .int .u64 b3] 37)).alloc
      (.cells #[.int .u64 c0, .int .u64 c1, .int .u64 c2, .int .u64 c3] 37)).alloc (.cells #[.int .u64 0, .int .u64 0, .int .u64 0, .int .u64 0] 37)).alloc
      (.cells #[.int .u64 0, .int .u64 0, .int .u64 0, .int .u64 0, .int .u64 0, .int .u64 0, .int .u64 0, .int .u64 0] 62)).drew := ⟨_, rfl⟩
  have fA : w1.heap[W.heap.size]? = some (.cells #[.int .u64 a0, .int .u64 a1, .int .u64 a2, .int .u64 a3] 37 (0, 0)) := by rw [hw1]; exact alloc_old (alloc_old (alloc_old (alloc_old (alloc_at _ _))))
  have fB : w1.heap[W.heap.size + 1]? = some (.cells #[.int .u64 b0, .int .u64 b1, .int .u64 b2, .int .u64 b3] 37 (0, 0)) := by rw [hw1]; exact alloc_old (alloc_old (alloc_old (alloc_at' (by simp) _)))
  have fC : w1.heap[W.heap.size + 1 + 1]? = some (.cells #[.int .u64 c0, .int .u64 c1, .int .u64 c2, .int .u64 c3] 37 (0, 0)) := by rw [hw1]; exact alloc_old (alloc_old (alloc_at' (by simp) _))
  have fR : w1.heap[W.heap.size + 1 + 1 + 1]? = some (.cells #[.int .u64 0, .int .u64 0, .int .u64 0, .int .u64 0] 37 (0, 0)) := by rw [hw1]; exact alloc_old (alloc_at' (by simp) _)
  have fV : w1.heap[W.heap.size + 1 + 1 + 1 + 1]? = some (.cells #[.int .u64 0, .int .u64 0, .int .u64 0, .int .u64 0, .int .u64 0, .int .u64 0, .int .u64 0, .int .u64 0] 62 (0, 0)) := by rw [hw1]; exact alloc_at' (by simp) _
  have bel1 : Below W.heap.size W w1 := by rw [hw1]; exact (below_alloc (below_alloc (below_alloc (below_alloc (below_new _) _) _) _) _).drew
  rw [← hw1]
  clear hw1
  obtain ⟨N, hN⟩ : ∃ N, N = W.heap.size := ⟨_, rfl⟩
  rw [← hN] at fA fB fC fR fV bel1 ⊢
  have HN := hid hN
  clear hN
  refine wpList_copy_splice rfl _ _ _ _ rfl 34 Tryd.underlying63 (by kernel_rfl) _ _ 8 8 4 4 rfl rfl (N + 1 + 1 + 1 + 1) 0
    [.int .u64 0, .int .u64 0, .int .u64 0, .int .u64 0, .int .u64 0, .int .u64 0, .int .u64 0, .int .u64 0] 62 fV [.int .u64 c0, .int .u64 c1, .int .u64 c2, .int .u64 c3] rfl ?_ (by simp) (by simp [Value.oneCell']) (N + 1 + 1 + 1 + 1) w1 (Below.refl _ _) (Nat.le_refl _) ?_
  · intro _
    refine ⟨rfl, ⟨N + 1 + 1, 0, none⟩, rfl, fun j v hv => ?_⟩
    rw [Go.WideShapes.add_plain, Nat.zero_add, cell_at fC]
    simpa using hv
  intro w2 hV2 hb2
  have gA := (hb2.block N (by omega)).trans fA
  have gB := (hb2.block (N + 1) (by omega)).trans fB
  have gR := hid ((hb2.block (N + 1 + 1 + 1) (by omega)).trans fR)
  have gV : w2.heap[N + 1 + 1 + 1 + 1]? = some (.cells (ints .u64 [c0, c1, c2, c3, 0, 0, 0, 0]) 62 (0, 0)) := hV2.out
  have bel2 := hid (bel1.trans (hb2.mono (by have := lt_blk fV; have := HN.out; omega)))
  clear fA fB fC fR fV hV2 hb2 bel1
  have ca0 : w2.cell? ⟨N, 0, none⟩ = some (.int .u64 a0) := cell_at gA 0
  have ca1 : w2.cell? ⟨N, 1, none⟩ = some (.int .u64 a1) := cell_at gA 1
  have ca2 : w2.cell? ⟨N, 2, none⟩ = some (.int .u64 a2) := cell_at gA 2
  have ca3 : w2.cell? ⟨N, 3, none⟩ = some (.int .u64 a3) := cell_at gA 3
  have GB := hid gB
  have GV := hid gV
  clear gA gB gV
  go_wp2_with fail
  clear ca0 ca1 ca2 ca3
  go_loopw [23] (fun i wr => ∃ (k : Nat) (wl : List Nat), k ≤ 4 ∧ i = .int .i64 (k : Int) ∧ wl.length = 8 ∧ All (2 ^ 64) wl ∧ val (2 ^ 64) wl = c + val (2 ^ 64) (da.take k) * b ∧
      wr.heap[N + 1]? = some (.cells #[.int .u64 b0, .int .u64 b1, .int .u64 b2, .int .u64 b3] 37 (0, 0)) ∧ wr.heap[N + 1 + 1 + 1]? = some (.cells #[.int .u64 0, .int .u64 0, .int .u64 0, .int .u64 0] 37 (0, 0)) ∧
      wr.heap[N + 1 + 1 + 1 + 1]? = some (.cells (ints .u64 wl) 62 (0, 0)) ∧ Below W.heap.size W wr) (fun i _ => (4 - intOf i).toNat)
  case atStart =>
    refine ⟨0, [c0, c1, c2, c3, 0, 0, 0, 0], by omega, rfl, rfl, ?_, ?_, GB.out, gR.out, GV.out, by rw [← HN.out]; exact bel2.out⟩
    · obtain ⟨e0, e1, e2, e3⟩ := HC.out
      have h := digs_all (B := 2 ^ 64) (by decide) c 4
      rw [← HDC.out] at h
      have hl : dc.length = 4 := by rw [HDC.out, digs_length]
      have g0 := h.getD (j := 0) (by omega)
      have g1 := h.getD (j := 1) (by omega)
      have g2 := h.getD (j := 2) (by omega)
      have g3 := h.getD (j := 3) (by omega)
      rw [e0] at g0; rw [e1] at g1; rw [e2] at g2; rw [e3] at g3
      intro y hy
      simp only [List.mem_cons, List.not_mem_nil, or_false] at hy
      omega
    · obtain ⟨e0, e1, e2, e3⟩ := HC.out
      have hv := val_digs (B := 2 ^ 64) c 4
      rw [← HDC.out, Nat.mod_eq_of_lt (a := c) (b := (2 ^ 64) ^ 4) (by unfold ordL at hc; omega)] at hv
      have hl : dc.length = 4 := by rw [HDC.out, digs_length]
      match dc, hl, hv, e0, e1, e2, e3 with
      | [y0, y1, y2, y3], _, hv, e0, e1, e2, e3 =>
        simp only [List.getD_cons_zero, List.getD_cons_succ] at e0 e1 e2 e3
        subst e0 e1 e2 e3
        rw [← hv]
        simp [val]
  case round =>
    obtain ⟨k, wl, hk, rfl, hwl, hall, hval, rB, rR, rV, rb⟩ := hrel
    have HV := hid hval
    have RR := hid rR
    have RV := hid rV
    have RBE := hid rb
    clear hval rR rV rb
    by_cases hk4 : k < 4
    · have cb0 : wr.cell? ⟨N + 1, 0, none⟩ = some (.int .u64 b0) := cell_at rB 0
      have cb1 : wr.cell? ⟨N + 1, 1, none⟩ = some (.int .u64 b1) := cell_at rB 1
      have cb2 : wr.cell? ⟨N + 1, 2, none⟩ = some (.int .u64 b2) := cell_at rB 2
      have cb3 : wr.cell? ⟨N + 1, 3, none⟩ = some (.int .u64 b3) := cell_at rB 3
      have RB := hid rB
      clear rB
      obtain ⟨x, hx, hix⟩ : ∃ x : Nat, da.getD k 0 = x ∧ ∀ w, (Instr.index 35 (.agg #[.int .u64 (a0 : Int), .int .u64 (a1 : Int), .int .u64 (a2 : Int), .int .u64 (a3 : Int)]) (.int .i64 (k : Int))).run Tryd.prog w = .ok (.int .u64 (x : Int)) w := by
        obtain ⟨e0, e1, e2, e3⟩ := HA.out
        match k, hk4 with
        | 0, _ => exact ⟨a0, e0, fun w => idx4_0 _ _ _ _ w⟩
        | 1, _ => exact ⟨a1, e1, fun w => idx4_1 _ _ _ _ w⟩
        | 2, _ => exact ⟨a2, e2, fun w => idx4_2 _ _ _ _ w⟩
        | 3, _ => exact ⟨a3, e3, fun w => idx4_3 _ _ _ _ w⟩
      have HX := hid hx
      clear hx
      have hkd : decide ((k : Int) < 4) = true := decide_eq_true (by omega)
      go_wp2_with fail
      clear hix cb0 cb1 cb2 cb3
      go_loopw [29, 10] (fun i cy wq => ∃ (j cr : Nat) (wm : List Nat), j ≤ 4 ∧ i = .int .i64 (j : Int) ∧ cy = .int .u64 (cr : Int) ∧ cr < 18446744073709551616 ∧ wm.length = 8 ∧ All (2 ^ 64) wm ∧
          val (2 ^ 64) wm + cr * (2 ^ 64) ^ (k + j) = val (2 ^ 64) wl + x * val (2 ^ 64) (db.take j) * (2 ^ 64) ^ k ∧
          wq.heap[N + 1]? = some (.cells #[.int .u64 b0, .int .u64 b1, .int .u64 b2, .int .u64 b3] 37 (0, 0)) ∧ wq.heap[N + 1 + 1 + 1]? = some (.cells #[.int .u64 0, .int .u64 0, .int .u64 0, .int .u64 0] 37 (0, 0)) ∧
          wq.heap[N + 1 + 1 + 1 + 1]? = some (.cells (ints .u64 wm) 62 (0, 0)) ∧ Below W.heap.size W wq) (fun i _ _ => (4 - intOf i).toNat)
      case atStart => exact ⟨0, 0, wl, by omega, rfl, rfl, by omega, hwl, hall, by simp [DG.val], RB.out, RR.out, RV.out, RBE.out⟩
      case round =>
        obtain ⟨j, cr, wm, hj, rfl, rfl, hcr, hwm, hallm, hvm, qB, qR, qV, qb⟩ := hrel
        have HVM := hid hvm
        have QB := hid qB
        have QR := hid qR
        have QBE := hid qb
        clear hvm qB qR qb
        by_cases hj4 : j < 4
        · obtain ⟨y, hy, hiy⟩ : ∃ y : Nat, db.getD j 0 = y ∧ ∀ w, (Instr.index 35 (.agg #[.int .u64 (b0 : Int), .int .u64 (b1 : Int), .int .u64 (b2 : Int), .int .u64 (b3 : Int)]) (.int .i64 (j : Int))).run Tryd.prog w = .ok (.int .u64 (y : Int)) w := by
            obtain ⟨e0, e1, e2, e3⟩ := HB.out
            match j, hj4 with
            | 0, _ => exact ⟨b0, e0, fun w => idx4_0 _ _ _ _ w⟩
            | 1, _ => exact ⟨b1, e1, fun w => idx4_1 _ _ _ _ w⟩
            | 2, _ => exact ⟨b2, e2, fun w => idx4_2 _ _ _ _ w⟩
            | 3, _ => exact ⟨b3, e3, fun w => idx4_3 _ _ _ _ w⟩
          have hx64 : x < 18446744073709551616 := by rw [← HX.out, HDA.out]; exact (digs_all (B := 2 ^ 64) (by decide) a 4).getD (by rw [digs_length]; exact hk4)
          have hy64 : y < 18446744073709551616 := by rw [← hy, HDB.out]; exact (digs_all (B := 2 ^ 64) (by decide) b 4).getD (by rw [digs_length]; exact hj4)
          have hkj : k + j < wm.length := by omega
          have ht64 := hallm.getD hkj
          have cj := ints_cell qV hkj
          have hfv := free_at qV
          have hi0 : 0 ≤ (k : Int) + (j : Int) := by omega
          have hi1 : (k : Int) + (j : Int) < 8 := by omega
          have hi2 : ((k : Int) + (j : Int)).toNat = k + j := by omega
          generalize hT : wm.getD (k + j) 0 = T at *
          have HT := hid hT
          have HY := hid hy
          have QV := hid qV
          clear hT hy qV
          go_wp2_with fail
          refine (mul64_any x y _ (by omega) (by omega)).mono ?_
          rintro e w' ⟨rfl, rfl⟩
          obtain ⟨hi, lo, eh, el, m1, m2, m3, m4, m5, m6⟩ := mul64_facts (x : Int) (y : Int) (by omega) (by omega)
          rw [eh, el]
          have M5 := hid m5
          clear eh el m5
          have tok1 : True := trivial
          have tok2 : True := trivial
          go_wp2_with (first | (have _t := tok1; refine wpList_add64 rfl rfl _ _ _ rfl rfl rfl (by omega) (by omega) (by omega) (by omega) (by omega) ?_; intro d1 e1 da1 db1 ea1 eb1 pa1 pb1; obtain ⟨d1, rfl⟩ := Int.eq_ofNat_of_zero_le da1; obtain ⟨e1, rfl⟩ := Int.eq_ofNat_of_zero_le ea1; clear tok1 _t) | (have _t := tok2; refine wpList_add64 rfl rfl _ _ _ rfl rfl rfl (by omega) (by omega) (by omega) (by omega) (by omega) ?_; intro d2 e2 da2 db2 ea2 eb2 pa2 pb2; obtain ⟨d2, rfl⟩ := Int.eq_ofNat_of_zero_le da2; obtain ⟨e2, rfl⟩ := Int.eq_ofNat_of_zero_le ea2; clear tok2 _t))
          have he : d2 + 18446744073709551616 * (hi.toNat + e1 + e2) = x * y + T + cr := by
            have m := M5.out
            have m' : ((x * y : Nat) : Int) = lo + 18446744073709551616 * hi := by rw [Int.natCast_mul]; exact m
            clear m M5
            generalize x * y = xy at *
            omega
          have hst := mul_step (B := 2 ^ 64) (wl := wm) (j := k + j) (v := d2) (x := x) (y := y) (c := cr) (c' := hi.toNat + e1 + e2) (V0 := val (2 ^ 64) wl) (t := val (2 ^ 64) (db.take j)) (i := k) (k := j) hkj rfl HVM.out (by rw [HT.out]; exact he)
          rw [← HY.out, ← val_take_succ db j (by rw [HDB.out, digs_length]; exact hj4)] at hst
          have HST := hid hst
          clear hst
          have hci : hi + (e1 : Int) + (e2 : Int) = ((hi.toNat + e1 + e2 : Nat) : Int) := by omega
          go_roundw
          case rel =>
            refine ⟨j + 1, hi.toNat + e1 + e2, wm.set (k + j) d2, by omega, by go_num, congrArg (Value.int IntKind.u64) hci, by omega, by simp [hwm], All.set hallm _ (by omega), HST.out, at_setCell_other QB.out (by simp) _, at_setCell_other QR.out (by simp) _, ?_, QBE.out.setCell (by have := HN.out; simp; omega) _⟩
            exact ints_store QV.out _ _
          case measure => simp [intOf]; omega
        · have hj5 : j = 4 := by omega
          have hjd : decide ((j : Int) < 4) = false := decide_eq_false (by omega)
          have hvm := HVM.out
          rw [hj5, List.take_of_length_le (by rw [HDB.out, digs_length]; omega), HDB.out, val_digs, Nat.mod_eq_of_lt (a := b) (b := (2 ^ 64) ^ 4) (by unfold ordL at hb; omega)] at hvm
          have HVM2 := hid hvm
          have QV := hid qV
          clear hvm HVM qV hj5
          go_wp2_with fail
          go_loopw [16, 10] (fun i cy wq => ∃ (j cr : Nat) (wm : List Nat), k + 4 ≤ j ∧ j ≤ 8 ∧ i = .int .i64 (j : Int) ∧ cy = .int .u64 (cr : Int) ∧ cr < 18446744073709551616 ∧ wm.length = 8 ∧ All (2 ^ 64) wm ∧
              val (2 ^ 64) wm + cr * (2 ^ 64) ^ j = val (2 ^ 64) wl + x * b * (2 ^ 64) ^ k ∧
              wq.heap[N + 1]? = some (.cells #[.int .u64 b0, .int .u64 b1, .int .u64 b2, .int .u64 b3] 37 (0, 0)) ∧ wq.heap[N + 1 + 1 + 1]? = some (.cells #[.int .u64 0, .int .u64 0, .int .u64 0, .int .u64 0] 37 (0, 0)) ∧
              wq.heap[N + 1 + 1 + 1 + 1]? = some (.cells (ints .u64 wm) 62 (0, 0)) ∧ Below W.heap.size W wq) (fun i _ _ => (8 - intOf i).toNat)
          case atStart => exact ⟨k + 4, cr, wm, by omega, by omega, by go_num, rfl, hcr, hwm, hallm, HVM2.out, QB.out, QR.out, QV.out, QBE.out⟩
          case round =>
            obtain ⟨j, cr, wm, hj1, hj, rfl, rfl, hcr, hwm, hallm, hvm, qB, qR, qV, qb⟩ := hrel
            have HVM := hid hvm
            have QB := hid qB
            have QR := hid qR
            have QBE := hid qb
            clear hvm qB qR qb
            by_cases hj8 : j < 8
            · have hkj : j < wm.length := by omega
              have ht64 := hallm.getD hkj
              have cj := ints_cell qV hkj
              have hfv := free_at qV
              generalize hT : wm.getD j 0 = T at *
              have HT := hid hT
              have QV := hid qV
              clear hT qV
              have tok1 : True := trivial
              go_wp2_with (first | (have _t := tok1; refine wpList_add64 rfl rfl _ _ _ rfl rfl rfl (by omega) (by omega) (by omega) (by omega) (by omega) ?_; intro d1 e1 da1 db1 ea1 eb1 pa1 pb1; obtain ⟨d1, rfl⟩ := Int.eq_ofNat_of_zero_le da1; obtain ⟨e1, rfl⟩ := Int.eq_ofNat_of_zero_le ea1; clear tok1 _t))
              have he : d1 + 18446744073709551616 * e1 = T + cr := by omega
              have hst := carry_step (B := 2 ^ 64) (wl := wm) (j := j) (v := d1) (c := cr) (c' := e1) hkj HVM.out (by rw [HT.out]; exact he)
              have HST := hid hst
              clear hst
              go_roundw
              case rel =>
                refine ⟨j + 1, e1, wm.set j d1, by omega, by omega, by go_num, rfl, by omega, by simp [hwm], All.set hallm _ (by omega), HST.out, at_setCell_other QB.out (by simp) _, at_setCell_other QR.out (by simp) _, ?_, QBE.out.setCell (by have := HN.out; simp; omega) _⟩
                exact ints_store QV.out _ _
              case measure => simp [intOf]; omega
            · have hj9 : j = 8 := by omega
              subst hj9
              have hval2 : val (2 ^ 64) wl + x * b * (2 ^ 64) ^ k = c + val (2 ^ 64) (da.take (k + 1)) * b := by
                rw [HV.out, val_take_succ da k (by rw [HDA.out, digs_length]; exact hk4), HX.out, Nat.add_mul, Nat.mul_right_comm]
                omega
              have hbd : c + val (2 ^ 64) (da.take (k + 1)) * b < (2 ^ 64) ^ 8 := by
                refine row_bound ?_ (by unfold ordL at hb; omega) (by unfold ordL at hc; omega)
                have h1 := val_lt (B := 2 ^ 64) (l := da.take (k + 1)) (fun y hy => by rw [HDA.out] at hy; exact digs_all (by decide) a 4 y (List.mem_of_mem_take hy))
                refine Nat.lt_of_lt_of_le h1 (Nat.pow_le_pow_right (by decide) ?_)
                rw [List.length_take]; omega
              have hvm := HVM.out
              rw [hval2] at hvm
              obtain ⟨hc0, hv0⟩ := no_carry hbd hvm
              subst hc0
              have HV0 := hid hv0
              have QV := hid qV
              clear hv0 hvm hbd hval2 qV
              go_wp2_with fail
              exact ⟨⟨k + 1, wm, by omega, by go_num, hwm, hallm, HV0.out, QB.out, QR.out, QV.out, QBE.out⟩, by simp [intOf]; omega⟩
    · have hk5 : k = 4 := by omega
      have hkd : decide ((k : Int) < 4) = false := decide_eq_false (by omega)
      have hval := HV.out
      rw [hk5, List.take_of_length_le (by rw [HDA.out, digs_length]; omega), HDA.out, val_digs, Nat.mod_eq_of_lt (a := a) (b := (2 ^ 64) ^ 4) (by unfold ordL at ha; omega)] at hval
      have HV2 := hid hval
      have hwc : ∀ j, j < 8 → wr.cell? ⟨N + 1 + 1 + 1 + 1, 0 + j, none⟩ = some (.int .u64 ((wl.getD j 0 : Nat) : Int)) := fun j hj => by
        rw [Nat.zero_add]; exact ints_cell RV.out (by omega)
      have HW := hid hwc
      have HWL := hid hwl
      have RB := hid rB
      clear hval hwc HV hwl rB hk5
      go_wp2_with fail
      have hcall := of_any (N + 1 + 1 + 1 + 1) 0 8 wl wr hall (by rw [HWL.out]; omega) (by rw [HWL.out]; omega) (by rw [HWL.out]; omega) (by rw [HWL.out]; exact HW.out)
      rw [HWL.out, HV2.out, Nat.add_comm c] at hcall
      refine hcall.mono ?_
      clear hcall
      rintro e w' ⟨rfl, hb2⟩
      have ha2 := (hb2.block (N + 1 + 1 + 1) (lt_blk RR.out)).trans RR.out
      have hb3 := RBE.out.trans (hb2.mono RBE.out.size)
      generalize hn : (a * b + c) % ordL = n at *
      have hltn : n < ordL := by rw [← hn]; exact Nat.mod_lt _ (by decide)
      have HNN := hid hn
      clear hn hb2 HV2 HW HWL RBE RR RV
      obtain ⟨x0, x1, x2, x3, hqq, _⟩ := quad_w4 n (by unfold ordL at hltn; omega)
      rw [hqq]
      have HQQ := hid hqq
      clear hqq
      have r0 : w'.cell? ⟨N + 1 + 1 + 1, 0, none⟩ = some (.int .u64 0) := cell_at ha2 0
      have r1 : w'.cell? ⟨N + 1 + 1 + 1, 1, none⟩ = some (.int .u64 0) := cell_at ha2 1
      have r2 : w'.cell? ⟨N + 1 + 1 + 1, 2, none⟩ = some (.int .u64 0) := cell_at ha2 2
      have r3 : w'.cell? ⟨N + 1 + 1 + 1, 3, none⟩ = some (.int .u64 0) := cell_at ha2 3
      have hf := free_at ha2
      have hNle : W.heap.size ≤ N + 1 + 1 + 1 := by have := HN.out; omega
      clear ha2
      go_wp2_with fail
      refine bodyPost_ret (v := .agg #[.int .u64 x0, .int .u64 x1, .int .u64 x2, .int .u64 x3]) (by simp [results, Tryd.results14, go_sem, r0, r1, r2, r3]) rfl ⟨by rw [HNN.out, HQQ.out], ?_⟩
      exact (((hb3.setCell hNle _).setCell hNle _).setCell hNle _).setCell hNle _

end Go.Proofs.YtceljjnohjnepaaDoor

namespace Go.Proofs.YtceljjnohjnepaaDoor
open Go.RowKit DG

set_option maxRecDepth 100000 in
@[go_sem] theorem make0_32 (w : World) : (Instr.makeSlice 27 (.int .i64 0) (.int .i64 32)).run Tryd.prog w = .ok (.slice (some ⟨w.heap.size, 0, none⟩) 0 32) (w.alloc (.cells (ints .u8 (List.replicate 32 0)) 5)) := by kernel_rfl
set_option maxRecDepth 100000 in
theorem oconv_string (w : World) (b off len cap : Nat) (l : List UInt8) (hl : l.length = len) (hc : ∀ j, j < len → w.cell? ⟨b, off + j, none⟩ = some (.int .u8 ((l.getD j 0).toNat : Int))) :
    (convert 27 9 (.slice (some ⟨b, off, none⟩) len cap)).run Tryd.prog w = .ok (.string ⟨l.toArray⟩) w := by
  have h := run_convert_bytes_arg (P := Tryd.prog) w 27 5 Tryd.underlying27 Tryd.underlying5 b off len cap (l.map fun c => (c.toNat : Int)) (by simpa using hl) (fun i hi => by
    rw [hc i hi]; simp [hl, hi]) 9 Tryd.underlying9
  rw [h]
  congr 2
  unfold strOfNums
  congr 1
  rw [List.map_map]
  congr 1
  conv => rhs; rw [← List.map_id l]
  exact List.map_congr_left fun c _ => by simp

set_option maxRecDepth 100000 in
theorem u8s_step {n k j x : Nat} (hk : k < 4) (hj : j < 8) (hx : x = n / (2 ^ 64) ^ k % 2 ^ 64) :
    u8s ((natBytes n 32).take (8 * k + j)) ++ [.int .u8 ((x : Int) / 2 ^ (8 * j) % 256)] = u8s ((natBytes n 32).take (8 * k + (j + 1))) := by
  have hm : 8 * k + j < (natBytes n 32).length := by rw [natBytes_length]; omega
  rw [show 8 * k + (j + 1) = (8 * k + j) + 1 by omega, List.take_succ_eq_append_getElem hm]
  unfold u8s
  rw [List.map_append]
  congr 1
  simp only [List.map_cons, List.map_nil, List.cons.injEq, Value.int.injEq, true_and, and_true]
  have e1 : ((natBytes n 32)[8 * k + j]).toNat = n / 256 ^ (8 * k + j) % 256 := by
    have h1 : ((natBytes n 32).map (·.toNat)).getD (8 * k + j) 0 = n / 256 ^ (8 * k + j) % 256 := by rw [natBytes_map, digs_getD n (by omega)]
    rw [← h1]; simp [hm]
  rw [e1]
  have e2 : x / 2 ^ (8 * j) % 256 = n / 256 ^ (8 * k + j) % 256 := by
    have h256 : (256 : Nat) ^ (8 * k + j) = (2 ^ 64) ^ k * 2 ^ (8 * j) := by
      rw [show (256 : Nat) = 2 ^ 8 from rfl, ← Nat.pow_mul, ← Nat.pow_mul, ← Nat.pow_add]; congr 1; omega
    rw [hx, h256, ← Nat.div_div_eq_div_mul]
    generalize n / (2 ^ 64) ^ k = m
    have h3 : (2 : Nat) ^ 64 = 2 ^ (8 * j) * (256 * 2 ^ (56 - 8 * j)) := by
      rw [show (256 : Nat) = 2 ^ 8 from rfl, ← Nat.pow_add, ← Nat.pow_add]; congr 1; omega
    rw [h3, Nat.mod_mul, Nat.add_mul_div_left _ _ (Nat.two_pow_pos _), Nat.div_eq_of_lt (Nat.mod_lt _ (Nat.two_pow_pos _)), Nat.zero_add, Nat.mod_mul_right_mod]
  rw [← e2]
  have : ((x : Int) / (2 : Int) ^ (8 * j)) = ((x / 2 ^ (8 * j) : Nat) : Int) := by rw [Int.natCast_ediv, Int.natCast_pow]; rfl
  rw [this]; omega

set_option maxRecDepth 100000 in
set_option maxHeartbeats 1000000 in
theorem Bytes_any (n : Nat) (W : World) (_hn : n < 115792089237316195423570985008687907853269984665640564039457584007913129639936) :
    Calls Tryd.prog 15 #[.agg (quad n)] W fun e w' => e = .returned (.string ⟨(natBytes n 32).toArray⟩) ∧ Below W.heap.size W w' := by
  obtain ⟨i0, hi, hz0, hz1, hz2⟩ := info_parts info_u8
  rw [oquad_ints n]
  obtain ⟨da, hda⟩ : ∃ da, da = digs (2 ^ 64) n 4 := ⟨_, rfl⟩
  rw [← hda]
  have HDA := hid hda
  clear hda
  generalize ha0 : da.getD 0 0 = a0
  generalize ha1 : da.getD 1 0 = a1
  generalize ha2 : da.getD 2 0 = a2
  generalize ha3 : da.getD 3 0 = a3
  have HA := hid (And.intro ha0 (And.intro ha1 (And.intro ha2 ha3)))
  clear ha0 ha1 ha2 ha3
  go_enter Tryd.func15, Tryd.ntmps15
  go_wp2_with fail
  go_loopw [3, 10] (fun v i wr => ∃ k : Nat, k ≤ 4 ∧ i = .int .i64 (k : Int) ∧ wr.ownsRow W.heap.size 5 1 v (8 * k) (u8s ((natBytes n 32).take (8 * k))) ∧ Below W.heap.size W wr) (fun _ i _ => (4 - intOf i).toNat)
  case atStart =>
    refine ⟨0, by omega, rfl, ⟨rfl, .inr ⟨W.heap.size + 1, 32, _, rfl, by omega, alloc_at' (by simp) _, by omega, by decide, rfl, rfl⟩⟩, below_alloc (below_new _) _⟩
  case round =>
    obtain ⟨k, hk, rfl, hown, hb⟩ := hrel
    have HO := hid hown
    clear hown
    by_cases hk4 : k < 4
    · obtain ⟨x, hx, hix⟩ : ∃ x : Nat, da.getD k 0 = x ∧ ∀ w, (Instr.index 35 (.agg #[.int .u64 (a0 : Int), .int .u64 (a1 : Int), .int .u64 (a2 : Int), .int .u64 (a3 : Int)]) (.int .i64 (k : Int))).run Tryd.prog w = .ok (.int .u64 (x : Int)) w := by
        obtain ⟨e0, e1, e2, e3⟩ := HA.out
        match k, hk4 with
        | 0, _ => exact ⟨a0, e0, fun w => idx4_0 _ _ _ _ w⟩
        | 1, _ => exact ⟨a1, e1, fun w => idx4_1 _ _ _ _ w⟩
        | 2, _ => exact ⟨a2, e2, fun w => idx4_2 _ _ _ _ w⟩
        | 3, _ => exact ⟨a3, e3, fun w => idx4_3 _ _ _ _ w⟩
      have HX := hid hx
      clear hx
      have hkd : decide ((k : Int) < 4) = true := decide_eq_true (by omega)
      go_wp2_with fail
      go_loopw [3, 13] (fun v i wq => ∃ j : Nat, j ≤ 8 ∧ i = .int .i64 (j : Int) ∧ wq.ownsRow W.heap.size 5 1 v (8 * k + j) (u8s ((natBytes n 32).take (8 * k + j))) ∧ Below W.heap.size W wq) (fun _ i _ => (8 - intOf i).toNat)
      case atStart => exact ⟨0, by omega, rfl, HO.out, hb⟩
      case round =>
        obtain ⟨j, hj, rfl, hown, hb⟩ := hrel
        have HOJ := hid hown
        clear hown
        by_cases hj8 : j < 8
        · have hj0 : 0 ≤ (j : Int) * 8 := by omega
          have hjd : decide ((j : Int) < 8) = true := decide_eq_true (by omega)
          have hml : (8 * k + j) + 1 ≤ maxLen := by unfold maxLen; omega
          go_wp2_with (at_builtin; refine wpList_append_own _ rfl _ _ 27 rfl W.heap.size 5 i0 (.int .u8 0) 1 1 Tryd.underlying27 hi hz0 hz1 hz2 rfl (by decide) _ _ _ rfl (HOJ.out.alloc _) ⟨wr.heap.size, 0, none⟩ 1 1 [.int .u8 ((x : Int) / 2 ^ (8 * j) % 256)] rfl rfl ?c1 ?c2 hml ?c4 ?c5 ?_)
          case c1 => exact cell_one_new _ _ _
          case c2 => intro u hu; simp only [List.mem_cons, List.not_mem_nil, or_false] at hu; subst hu; rfl
          case c4 => omega
          case c5 => have := hb.size; simp; omega
          intro v' w1 hown' hgrow _
          have hb2 : Below W.heap.size W w1 := (below_alloc hb _).grown hgrow (by have := hb.size; simp; omega) (fun g hg => block_le HOJ.out hg)
          rw [u8s_step (n := n) (k := k) (j := j) (x := x) (by omega) hj8 (by rw [← HX.out, HDA.out, digs_getD n hk4])] at hown'
          have HO' := hid hown'
          clear hown' hgrow hml
          go_wp2_with fail
          go_roundw
          case rel => exact ⟨j + 1, by omega, by go_num, HO'.out, hb2⟩
          case measure => simp [intOf]; omega
        · have hj9 : j = 8 := by omega
          have hjd : decide ((j : Int) < 8) = false := decide_eq_false (by omega)
          have ho := HOJ.out
          rw [hj9, show 8 * k + 8 = 8 * (k + 1) by omega] at ho
          have HO2 := hid ho
          clear ho HOJ hj9
          go_wp2_with fail
          exact ⟨⟨k + 1, by omega, by go_num, HO2.out, hb⟩, by simp [intOf]; omega⟩
    · have hk5 : k = 4 := by omega
      subst hk5
      obtain ⟨_, h2⟩ := HO.out
      rcases h2 with ⟨_, h0⟩ | ⟨g, cap, cur, rfl, hg, hc, hle, _, hsz, hxs⟩
      · omega
      have hcv := oconv_string wr g 0 32 cap (natBytes n 32) (natBytes_length n 32) (fun j hj => by
        rw [Nat.zero_add, cell_at hc]
        have h3 : cur.toList[j]? = (u8s (natBytes n 32))[j]? := by
          have h4 : (cur.toList.take 32)[j]? = cur.toList[j]? := by rw [List.getElem?_take, if_pos hj]
          rw [← h4, show (32 : Nat) = 8 * 4 * 1 from rfl, hxs, List.take_of_length_le (by rw [natBytes_length]; omega)]
        rw [← Array.getElem?_toList, h3]
        unfold u8s
        have hjl : j < (natBytes n 32).length := by rw [natBytes_length]; exact hj
        simp [hjl])
      have hw0 : Hid True := trivial
      clear hxs hc HO
      go_wp2_with fail
      go_ret
      exact ⟨rfl, hb⟩

end Go.Proofs.YtceljjnohjnepaaDoor

namespace Go.Proofs.YtceljjnohjnepaaDoor
open Go Go.RowKit DG

/-- Four points. -/
def tb (a b c d : P4) : Array Value := pt a.x a.y a.z a.t true ++ pt b.x b.y b.z b.t true ++ pt c.x c.y c.z c.t true ++ pt d.x d.y d.z d.t true
section
variable (a b c d : P4)
set_option maxRecDepth 100000 in
@[go_sem] theorem tb_size : (tb a b c d).size = 68 := by unfold tb; simp only [Array.size_append, pt_size]
set_option maxRecDepth 100000 in
@[go_sem] theorem tb_one : ones (tb a b c d) = true := by
  unfold tb
  simp only [ones_append, pt_one, Bool.true_and]
set_option maxRecDepth 100000 in
@[go_sem] theorem tb_0 : (tb a b c d).extract 0 17 = pt a.x a.y a.z a.t true := by
  have e : tb a b c d = #[] ++ pt a.x a.y a.z a.t true ++ (pt b.x b.y b.z b.t true ++ (pt c.x c.y c.z c.t true ++ pt d.x d.y d.z d.t true)) := by unfold tb; simp only [Array.append_assoc, Array.empty_append]
  rw [e]; exact ext_at _ _ _ 0 17 rfl (pt_size _ _ _ _ _)
set_option maxRecDepth 100000 in
@[go_sem] theorem tb_1 : (tb a b c d).extract 17 34 = pt b.x b.y b.z b.t true := by
  have e : tb a b c d = pt a.x a.y a.z a.t true ++ pt b.x b.y b.z b.t true ++ (pt c.x c.y c.z c.t true ++ pt d.x d.y d.z d.t true) := by unfold tb; simp only [Array.append_assoc]
  rw [e]; exact ext_at _ _ _ 17 17 (pt_size _ _ _ _ _) (pt_size _ _ _ _ _)
set_option maxRecDepth 100000 in
@[go_sem] theorem tb_2 : (tb a b c d).extract 34 51 = pt c.x c.y c.z c.t true := by
  have e : tb a b c d = (pt a.x a.y a.z a.t true ++ pt b.x b.y b.z b.t true) ++ pt c.x c.y c.z c.t true ++ pt d.x d.y d.z d.t true := by unfold tb; simp only [Array.append_assoc]
  rw [e]; exact ext_at _ _ _ 34 17 (by simp only [Array.size_append, pt_size]) (pt_size _ _ _ _ _)
set_option maxRecDepth 100000 in
@[go_sem] theorem tb_3 : (tb a b c d).extract 51 68 = pt d.x d.y d.z d.t true := by
  have e : tb a b c d = (pt a.x a.y a.z a.t true ++ (pt b.x b.y b.z b.t true ++ pt c.x c.y c.z c.t true)) ++ pt d.x d.y d.z d.t true ++ #[] := by unfold tb; simp only [Array.append_assoc, Array.append_empty]
  rw [e]; exact ext_at _ _ _ 51 17 (by simp only [Array.size_append, pt_size]) (pt_size _ _ _ _ _)
end
set_option maxRecDepth 100000 in
theorem info_Tb : (Tryd.prog.info? 75).map (·.size) = some 68 := by kernel_rfl
   theorem exl_Tb {r : Operand → Value} {dst : Option Nat} {x : Operand} {t : TypeId} {pos : String} {af : Array Edge} {g : Option (Nat × Bool)} : execOp r ⟨dst, .load 75 x, t, pos, af, g⟩ = (do let v ← loadRow 75 (r x); pure (Next.value v)) := rfl
   theorem exs_Tb {r : Operand → Value} {dst : Option Nat} {x y : Operand} {t : TypeId} {pos : String} {af : Array Edge} {g : Option (Nat × Bool)} : execOp r ⟨dst, .store 75 x y, t, pos, af, g⟩ = (do storeRow 75 (r x) (r y); pure Next.skip) := rfl
   theorem ldr_Tb (b : Nat) (w : World) : (loadRow 75 (.pointer (some ⟨b, 0, none⟩))).run Tryd.prog w = match hget w b with | some (.cells c _ _) => if c.size = 68 then .ok (.agg c) w else stuckL Tryd.prog 75 b w | _ => stuckL Tryd.prog 75 b w := loadRow_run Tryd.underlying75 rfl info_Tb b w
   theorem str_Tb (b : Nat) (c' : Array Value) (w : World) : (storeRow 75 (.pointer (some ⟨b, 0, none⟩)) (.agg c')).run Tryd.prog w = match hget w b with | some (.cells c T (0, 0)) => if c.size = 68 then (if c'.size = 68 then (if ones c' = true then .ok () (blk w b (.cells c' T (0, 0))) else stuckS Tryd.prog 75 b (.agg c') w) else stuckS Tryd.prog 75 b (.agg c') w) else stuckS Tryd.prog 75 b (.agg c') w | _ => stuckS Tryd.prog 75 b (.agg c') w := storeRow_run info_Tb b c' w
set_option maxRecDepth 100000 in
theorem info_Sc : (Tryd.prog.info? 37).map (·.size) = some 4 := by kernel_rfl
                                                                                                                                                                                                                                                                                                                                                                                                                                                                                              theorem exl_Sc {r : Operand → Value} {dst : Option Nat} {x : Operand} {t : TypeId} {pos : String} {af : Array Edge} {g : Option (Nat × Bool)} : execOp r ⟨dst, .load 37 x, t, pos, af, g⟩ = (do let v ← loadRow 37 (r x); pure (Next.value v)) := rfl
                                                                                                                                                                                                                                                                                                                                                                                                                                                                                              theorem exs_Sc {r : Operand → Value} {dst : Option Nat} {x y : Operand} {t : TypeId} {pos : String} {af : Array Edge} {g : Option (Nat × Bool)} : execOp r ⟨dst, .store 37 x y, t, pos, af, g⟩ = (do storeRow 37 (r x) (r y); pure Next.skip) := rfl
                                                                                                                                                                                                                                                                                                                                                                                                                                                                                              theorem ldr_Sc (b : Nat) (w : World) : (loadRow 37 (.pointer (some ⟨b, 0, none⟩))).run Tryd.prog w = match hget w b with | some (.cells c _ _) => if c.size = 4 then .ok (.agg c) w else stuckL Tryd.prog 37 b w | _ => stuckL Tryd.prog 37 b w := loadRow_run Tryd.underlying37 rfl info_Sc b w
                                                                                                                                                                                                                                                                                                                                                                                                                                                                                              theorem str_Sc (b : Nat) (c' : Array Value) (w : World) : (storeRow 37 (.pointer (some ⟨b, 0, none⟩)) (.agg c')).run Tryd.prog w = match hget w b with | some (.cells c T (0, 0)) => if c.size = 4 then (if c'.size = 4 then (if ones c' = true then .ok () (blk w b (.cells c' T (0, 0))) else stuckS Tryd.prog 37 b (.agg c') w) else stuckS Tryd.prog 37 b (.agg c') w) else stuckS Tryd.prog 37 b (.agg c') w | _ => stuckS Tryd.prog 37 b (.agg c') w := storeRow_run info_Sc b c' w
set_option maxRecDepth 100000 in
theorem ldm_Pt (b off : Nat) (w : World) : (loadRow 46 (.pointer (some ⟨b, off, none⟩))).run Tryd.prog w = match hget w b with | some (.cells c _ _) => if off + 17 ≤ c.size then .ok (.agg (c.extract off (off + 17))) w else stuckM Tryd.prog 46 b off w | _ => stuckM Tryd.prog 46 b off w := loadMid_run Tryd.underlying46 rfl info_Pt b off w
set_option maxRecDepth 100000 in
@[go_sem] theorem pt_whole (x y z t : Nat) (i : Bool) : (pt x y z t i).extract 0 17 = pt x y z t i := by
  have h := pt_size x y z t i
  generalize pt x y z t i = A at *
  rw [← h]; exact Array.extract_size
def buildRowT (t : TypeId) (ps : Array (Nat × Value)) : Sem Value := Instr.build t ps
set_option maxRecDepth 100000 in
theorem exb_Tb {r : Operand → Value} {dst : Option Nat} {ps : Array (Nat × Operand)} {t : TypeId} {pos : String} {af : Array Edge} {g : Option (Nat × Bool)} : execOp r ⟨dst, .build 75 ps, t, pos, af, g⟩ = (do let v ← buildRowT 75 (ps.map fun (i, x) => (i, r x)); pure (Next.value v)) := rfl
set_option maxRecDepth 100000 in
theorem bld_tb (a b c d : P4) (w : World) : (buildRowT 75 #[(0, pv a), (1, pv b), (2, pv c), (3, pv d)]).run Tryd.prog w = .ok (.agg (tb a b c d)) w :=
  run_build w 75 _ _ (by kernel_rfl)
set_option maxRecDepth 100000 in
@[go_sem] theorem zc_size : Tryd.zeroCells75.size = 68 := by kernel_rfl
attribute [local go_sem ↓] exl_Elem exs_Elem exl_Pt exs_Pt exb_Pt exl_Tb exs_Tb exb_Tb exl_Sc exs_Sc
                                                                       attribute [local go_sem] ldm_Elem str_Elem ldr_Pt str_Pt to_quad0 pt_zero bld_pt bld_pt0 str_Tb bld_tb ldm_Pt ldr_Sc str_Sc to_quad0

set_option maxRecDepth 100000 in
theorem strbit {n j : Nat} {s : ByteArray} (hs : (⟨(natBytes n 32).toArray⟩ : ByteArray) = s) (hn : n < p2) (hj : j < 256) (h : j / 8 < s.size) : bits .and .u8 (((s[j / 8]).toNat : Int) / (2 : Int) ^ (j % 8)) 1 = ((bitN n j : Nat) : Int) := by
  rw [and1_shr8 _ _ (UInt8.toNat_lt _)]
  have hl : s.data.toList = natBytes n 32 := by rw [← hs]
  have h1 := bit_of_bytes (natBytes n 32) j (by rw [natBytes_length]; omega)
  rw [bytesNat_natBytes, Nat.mod_eq_of_lt (Nat.lt_of_lt_of_eq hn (by decide))] at h1
  unfold bitN
  rw [h1]
  have h2 : s[j / 8] = (natBytes n 32).getD (j / 8) 0 := by
    rw [← hl]
    have h3 : j / 8 < s.data.toList.length := by simpa using h
    rw [List.getD_eq_getElem?_getD, List.getElem?_eq_getElem h3, Option.getD_some]
    rfl
  rw [h2]

set_option maxRecDepth 100000 in
set_option maxHeartbeats 1000000 in
theorem pboth_no (x y z t m n : Nat) (W : World) : Calls Tryd.prog 21 #[.agg (pt x y z t false), .agg (quad m), .agg (quad n)] W fun r w' => r = .returned noPt ∧ Below W.heap.size W w' := by
  go_enter Tryd.func21, Tryd.ntmps21
  go_upto_region 1 with (fail)
  obtain ⟨w1, hw1⟩ : ∃ w1, (((W.alloc (.cells (pt x y z t false) 46)).alloc (.cells (quad m) 37)).alloc (.cells (quad n) 37)).alloc (.cells (pt 0 0 0 0 false) 46) = w1 := ⟨_, rfl⟩
  have kA := kept (show hget w1 (W.heap.size) = some (.cells (pt x y z t false) 46 (0, 0)) by rw [← hw1]; clear hw1; go_simp)
  have kR := kept (show hget w1 (W.heap.size + 1 + 1 + 1) = some (.cells (pt 0 0 0 0 false) 46 (0, 0)) by rw [← hw1]; clear hw1; go_simp)
  have b1 : Hid (Below W.heap.size W w1) := by rw [← hw1]; repeat (first | exact Below.refl _ _ | exact below_new _ | assumption | refine Below.drew ?_ | refine Below.drewN ?_ _ | refine below_alloc ?_ _ | refine below_blk' ?_ (by omega) _)
  rw [hw1]
  clear hw1
  try clear gA lA nA mA
  try clear jA
  have jA := kA.later
  obtain ⟨gA, lA, nA, mA⟩ := kA
  try clear gR lR nR mR
  try clear jR
  have jR := kR.later
  obtain ⟨gR, lR, nR, mR⟩ := kR
  have ci : w1.cell? ⟨W.heap.size, 16, none⟩ = some (.bool false) := (cell_at gA 16).trans (pt_is x y z t false)
  go_wp2_with fail
  refine bodyPost_ret (v := .agg (pt 0 0 0 0 false)) (results_cell_row Tryd.results21 _ _ (W.heap.size + 1 + 1 + 1) 46 (pt 0 0 0 0 false) (0, 0) _ (by rfl) (by rw [← hget_eq]; go_simp) Tryd.underlying46 rfl (by rw [info_Pt]; go_simp)) rfl ?_
  exact ⟨rfl, below_blk' b1.out (by omega) _⟩

set_option maxRecDepth 100000 in
set_option maxHeartbeats 4000000 in
theorem pboth_core (b p : P4) (m n : Nat) (W : World) (hB : ∀ w, Calls Tryd.prog 42 #[] w fun r w' => r = .returned (pv b) ∧ Below w.heap.size w w') (hb : b.bd) (hp : p.bd) (hm : m < p2) (hn : n < p2) : Calls Tryd.prog 21 #[pv p, .agg (quad m), .agg (quad n)] W fun r w' => r = .returned (pv (P4.both b p m n)) ∧ Below W.heap.size W w' := by
  obtain ⟨z, hz⟩ : ∃ z, P4.zero = z := ⟨_, rfl⟩
  have Z1 := hid (fun w => hz ▸ pzero_any w)
  have HZ := hid hz
  clear hz
  have B1 := hid hB
  clear hB
  have A1 := hid (fun w => padd_v p b w hp hb)
  obtain ⟨sm, hsm⟩ : ∃ s : ByteArray, ⟨(natBytes m 32).toArray⟩ = s := ⟨_, rfl⟩
  obtain ⟨sn, hsn⟩ : ∃ s : ByteArray, ⟨(natBytes n 32).toArray⟩ = s := ⟨_, rfl⟩
  have S1 := hid (fun w => hsm ▸ Bytes_any m w hm)
  have S2 := hid (fun w => hsn ▸ Bytes_any n w hn)
  have zm : sm.size = 32 := by rw [← hsm]; show (natBytes m 32).toArray.size = 32; simp [natBytes_length]
  have zn : sn.size = 32 := by rw [← hsn]; show (natBytes n 32).toArray.size = 32; simp [natBytes_length]
  have HSM := hid hsm
  have HSN := hid hsn
  clear hsm hsn
  go_enter Tryd.func21, Tryd.ntmps21
  go_upto_region 1 with (fail)
  obtain ⟨w1, hw1⟩ : ∃ w1, (((W.alloc (.cells (pt p.x p.y p.z p.t true) 46)).alloc (.cells (quad m) 37)).alloc (.cells (quad n) 37)).alloc (.cells (pt 0 0 0 0 false) 46) = w1 := ⟨_, rfl⟩
  have kA := kept (show hget w1 (W.heap.size) = some (.cells (pt p.x p.y p.z p.t true) 46 (0, 0)) by rw [← hw1]; clear hw1; go_simp)
  have kM := kept (show hget w1 (W.heap.size + 1) = some (.cells (quad m) 37 (0, 0)) by rw [← hw1]; clear hw1; go_simp)
  have kN := kept (show hget w1 (W.heap.size + 1 + 1) = some (.cells (quad n) 37 (0, 0)) by rw [← hw1]; clear hw1; go_simp)
  have kR := kept (show hget w1 (W.heap.size + 1 + 1 + 1) = some (.cells (pt 0 0 0 0 false) 46 (0, 0)) by rw [← hw1]; clear hw1; go_simp)
  have b1 : Hid (Below W.heap.size W w1) := by rw [← hw1]; repeat (first | exact Below.refl _ _ | exact below_new _ | assumption | refine Below.drew ?_ | refine Below.drewN ?_ _ | refine below_alloc ?_ _ | refine below_blk' ?_ (by omega) _)
  rw [hw1]
  clear hw1
  try clear gA lA nA mA
  try clear jA
  have jA := kA.later
  obtain ⟨gA, lA, nA, mA⟩ := kA
  try clear gM lM nM mM
  try clear jM
  have jM := kM.later
  obtain ⟨gM, lM, nM, mM⟩ := kM
  try clear gN lN nN mN
  try clear jN
  have jN := kN.later
  obtain ⟨gN, lN, nN, mN⟩ := kN
  try clear gR lR nR mR
  try clear jR
  have jR := kR.later
  obtain ⟨gR, lR, nR, mR⟩ := kR
  have ci : w1.cell? ⟨W.heap.size, 16, none⟩ = some (.bool true) := (cell_at gA 16).trans (pt_is _ _ _ _ _)
  go_upto_region 3 with (fail)
  clear ci jA jM jN jR
  have vM : ∀ x_ : LaterV w1, hget x_.w' (W.heap.size + 1) = some (.cells (quad m) 37 (0, 0)) := laterx_get gM (by simp)
  have vN : ∀ x_ : LaterV w1, hget x_.w' (W.heap.size + 1 + 1) = some (.cells (quad n) 37 (0, 0)) := laterx_get gN (by simp)
  have kR := lR
  refine wp_region_var [5] (fun _ => ⟨6, pt 0 0 0 0 false, pt z.x z.y z.z z.t true, 46⟩) [] (fun _ => ⟨0, #[], #[], 0⟩) (by kernel_rfl) (by kernel_rfl) (by kernel_rfl) (vsep_new (by kernel_rfl)) (fun e he => absurd he (by simp)) (fun hsep => ?_) (fun e he => absurd he (by simp))
  have HSEP := hid hsep
  clear hsep
  repeat (first | (refine wpV_plain0 HSEP.out (by kernel_rfl) (by rfl) (by rfl) (by kernel_rfl) (by kernel_rfl) (fun K hK => ?_); go_simp; refine hK _ ?_; clear hK K; try go_ints) | (refine wpV_plain0 HSEP.out (by kernel_rfl) (by rfl) (by rfl) (by kernel_rfl) (by kernel_rfl) (fun K hK => ?_); go_simp; (with_reducible refine ⟨_, fun x => Z1.out _, hK _ ?_⟩); clear hK K; try go_ints) | (refine wpV_plain0 HSEP.out (by kernel_rfl) (by rfl) (by rfl) (by kernel_rfl) (by kernel_rfl) (fun K hK => ?_); go_simp; (with_reducible refine ⟨_, fun x => S1.out _, hK _ ?_⟩); clear hK K; try go_ints) | (refine wpV_plain0 HSEP.out (by kernel_rfl) (by rfl) (by rfl) (by kernel_rfl) (by kernel_rfl) (fun K hK => ?_); go_simp; (with_reducible refine ⟨_, fun x => S2.out _, hK _ ?_⟩); clear hK K; try go_ints) | (refine wpV_make0 HSEP.out (by kernel_rfl) (by rfl) rfl (by rfl) (by kernel_rfl) (by kernel_rfl) (fun K hK => ⟨fun x => (by first | (go_simp; done) | (go_simp; rfl)), hK _ ?_⟩); clear hK K; try go_ints) | (refine wpV_store0 5 (by rfl) (by rfl) HSEP.out (by rfl) rfl (by kernel_rfl) (fun K hK => ⟨fun g bk_ x cs hg hcs hx => (by clear hK HSEP; rcases hcs with hcs | hcs <;> (rw [hcs] at hx; clear hcs; simp only [over, dstOf, List.getElem?_toArray, List.getElem?_cons_succ, List.getElem?_cons_zero, Option.bind_some, hg]; go_simp; done)), hK _ ?_⟩); clear hK K; try go_ints))
  refine wpGho_nil ?_
  intro gL xL h0L hnL haL hlL
  clear h0L hlL HSEP
  obtain ⟨v5, e5, l5, h5⟩ := hnL 5 (by simp)
  try simp at h5
  simp only [over, dstOf, List.getElem?_toArray, List.getElem?_cons_succ, List.getElem?_cons_zero, Option.bind_some, e5]
  have hxb := laterV_below xL
  have fA := laterx_get gA (by simp) xL
  have fR := laterx_get gR (by simp) xL
  clear hnL haL e5 vM vN
  generalize xL.w' = w2 at *
  have b2 := hid (below_to b1.out hxb)
  have b1s := b1.out.size
  clear hxb b1 gA lA nA mA gM lM nM mM gN lN nN mN gR lR nR mR S1 S2
  go_upto_region 4 with (fail)
  have vA : ∀ x_ : LaterV w2, hget x_.w' W.heap.size = some (.cells (pt p.x p.y p.z p.t true) 46 (0, 0)) := laterx_get fA (by simp)
  clear xL gL
  refine wp_region_var [7] (fun _ => ⟨8, Tryd.zeroCells75, tb z p b (p.add b), 75⟩) [] (fun _ => ⟨0, #[], #[], 0⟩) (by kernel_rfl) (by kernel_rfl) (by kernel_rfl) (vsep_new (by kernel_rfl)) (fun e he => absurd he (by simp)) (fun hsep => ?_) (fun e he => absurd he (by simp))
  have HSEP := hid hsep
  clear hsep
  repeat (first | (refine wpV_plain0 HSEP.out (by kernel_rfl) (by rfl) (by rfl) (by kernel_rfl) (by kernel_rfl) (fun K hK => ?_); go_simp; refine hK _ ?_; clear hK K; try go_ints) | (refine wpV_plain0 HSEP.out (by kernel_rfl) (by rfl) (by rfl) (by kernel_rfl) (by kernel_rfl) (fun K hK => ?_); go_simp; (with_reducible refine ⟨_, fun x => Z1.out _, hK _ ?_⟩); clear hK K; try go_ints) | (refine wpV_plain0 HSEP.out (by kernel_rfl) (by rfl) (by rfl) (by kernel_rfl) (by kernel_rfl) (fun K hK => ?_); go_simp; (with_reducible refine ⟨_, fun x => B1.out _, hK _ ?_⟩); clear hK K; try go_ints) | (refine wpV_plain0 HSEP.out (by kernel_rfl) (by rfl) (by rfl) (by kernel_rfl) (by kernel_rfl) (fun K hK => ?_); go_simp; (with_reducible refine ⟨_, fun x => A1.out _, hK _ ?_⟩); clear hK K; try go_ints) | (refine wpV_make0 HSEP.out (by kernel_rfl) (by rfl) rfl (by rfl) (by kernel_rfl) (by kernel_rfl) (fun K hK => ⟨fun x => (by first | (go_simp; done) | (go_simp; rfl)), hK _ ?_⟩); clear hK K; try go_ints) | (refine wpV_store0 7 (by rfl) (by rfl) HSEP.out (by rfl) rfl (by kernel_rfl) (fun K hK => ⟨fun g bk_ x cs hg hcs hx => (by clear hK HSEP; rcases hcs with hcs | hcs <;> (rw [hcs] at hx; clear hcs; simp only [over, dstOf, List.getElem?_toArray, List.getElem?_cons_succ, List.getElem?_cons_zero, Option.bind_some, hg]; go_simp; done)), hK _ ?_⟩); clear hK K; try go_ints))
  refine wpGho_nil ?_
  intro gL xL h0L hnL haL hlL
  clear h0L hlL HSEP
  obtain ⟨v7, e7, l7, h7⟩ := hnL 7 (by simp)
  try simp at h7
  simp only [over, dstOf, List.getElem?_toArray, List.getElem?_cons_succ, List.getElem?_cons_zero, Option.bind_some, e7]
  have hxb := laterV_below xL
  have fQ := laterx_get h5 (by simp) xL
  have fR2 := laterx_get fR (by simp) xL
  have lQ2 := hget_lt h5
  clear hnL haL e7 vA fA fR h5
  generalize xL.w' = w3 at *
  have b3 := hid (below_to b2.out hxb)
  have b2s := b2.out.size
  clear hxb b2 Z1 B1 A1 xL gL
  have r1 : (v5 = v7) = False := by simp; omega
  have r2 : (v7 = v5) = False := by simp; omega
  have r3 : (v5 = W.heap.size + 1 + 1 + 1) = False := by simp; omega
  have r4 : (W.heap.size + 1 + 1 + 1 = v5) = False := by simp; omega
  have r5 : (v7 = W.heap.size + 1 + 1 + 1) = False := by simp; omega
  have r6 : (W.heap.size + 1 + 1 + 1 = v7) = False := by simp; omega
  have r7 : W.heap.size ≤ v5 := by omega
  clear l5 l7 lQ2 b1s b2s kR
  obtain ⟨d, hd⟩ : ∃ d, p.add b = d := ⟨_, rfl⟩
  rw [hd] at h7
  have HD := hid hd
  clear hd
  go_wp2_with fail
  go_loopw [11] (fun i wr => ∃ k : Nat, ∃ q : P4, k ≤ 256 ∧ i = .int .i64 (255 - (k : Int)) ∧ P4.bothN b p m n k = q ∧ hget wr v5 = some (.cells (pt q.x q.y q.z q.t true) 46 (0, 0)) ∧ hget wr v7 = some (.cells (tb z p b d) 75 (0, 0)) ∧ hget wr (W.heap.size + 1 + 1 + 1) = some (.cells (pt 0 0 0 0 false) 46 (0, 0)) ∧ Below W.heap.size W wr) (fun i _ => (intOf i + 1).toNat)
  case atStart => exact ⟨0, z, by omega, rfl, HZ.out, fQ, h7, fR2, b3.out⟩
  case round =>
    clear fQ h7 fR2 b3
    obtain ⟨k, q, hk, rfl, hq, gQ, gT, gR, hb3⟩ := hrel
    have HQ := hid hq
    have b3 := hid hb3
    clear hq hb3
    by_cases hlt : k < 256
    · obtain ⟨j, hj⟩ : ∃ j : Nat, j = 255 - k := ⟨_, rfl⟩
      have hjk : k + j = 255 := by omega
      have hjI : (255 : Int) - (k : Int) = (j : Int) := by omega
      rw [hjI]
      have hge : decide ((0 : Int) ≤ (j : Int)) = true := decide_eq_true (by omega)
      have hi1 : 0 ≤ (j : Int) / 8 := by omega
      have hi2 : (j : Int) / 8 < 32 := by omega
      have hi3 : ((j : Int) / 8).toNat = j / 8 := by omega
      have hm1 : j / 8 < sm.size := by omega
      have hn1 : j / 8 < sn.size := by omega
      have hj255 : 255 - k = j := hj.symm
      have HJ := hid hj255
      have HJK := hid hjk
      clear hj hj255 hjk hjI
      have xm := strbit HSM.out hm (j := j) (by have := HJK.out; omega) hm1
      have xn := strbit HSN.out hn (j := j) (by have := HJK.out; omega) hn1
      have ym := bitN_lt m j
      have yn := bitN_lt n j
      obtain ⟨x, hx⟩ : ∃ x, bitN m j = x := ⟨_, rfl⟩
      obtain ⟨y, hy⟩ : ∃ y, bitN n j = y := ⟨_, rfl⟩
      rw [hx] at xm ym
      rw [hy] at xn yn
      have HX := hid hx
      have HY := hid hy
      clear hx hy
      go_wp2_with fail
      have jQ := Kept.later (kept gQ)
      have jT := Kept.later (kept gT)
      have jR := Kept.later (kept gR)
      refine wp_region_later (by kernel_rfl) (by kernel_rfl) ?_
      repeat ((go_big_quiet_step (fail)))
      refine wpQuiet_nil ?_
      intro wL hwL
      obtain ⟨⟨w8, hL⟩, e8⟩ := hwL
      change wL = w8 at e8
      subst e8
      have b4 := hid (below_to b3.out hL)
      have fQ : hget wL v5 = some (.cells (pt q.x q.y q.z q.t true) 46 (0, 0)) := jQ ⟨_, hL⟩
      have fT : hget wL v7 = some (.cells (tb z p b d) 75 (0, 0)) := jT ⟨_, hL⟩
      have fR : hget wL (W.heap.size + 1 + 1 + 1) = some (.cells (pt 0 0 0 0 false) 46 (0, 0)) := jR ⟨_, hL⟩
      clear b3 gQ gT gR jQ jT jR
      go_upto_region 9 with (fail)
      generalize wL = w4 at *
      have hw4 := b4.out.size
      clear hL
      have bq : q.bd := HQ.out ▸ P4.bothN_bd hb hp m n k
      have bq2 := P4.twice_bd bq
      have bz : z.bd := HZ.out ▸ P4.zero_ok.bd
      have bd : d.bd := HD.out ▸ P4.add_bd hp hb
      have hwr : IntKind.i64.wrap ((j : Int) - 1) = (j : Int) - 1 := IntWalk.i64_in _ (by have := HJK.out; omega)
      have T1 := hid (fun w => ptwice_v q w bq)
      have hcnt : (j : Int) - 1 = 255 - ((k + 1 : Nat) : Int) := by have := HJK.out; omega
      have hnext : P4.bothN b p m n (k + 1) = q.twice.add (P4.tab b p x y) := by
        show (P4.bothN b p m n k).twice.add (P4.tab b p (bitN m (255 - k)) (bitN n (255 - k))) = _
        rw [HQ.out, HJ.out, HX.out, HY.out]
      have HN := hid hnext
      have HCNT := hid hcnt
      clear hnext hcnt HX HY
      have jQ := Kept.later (kept fQ)
      have jT := Kept.later (kept fT)
      have jR := Kept.later (kept fR)
      have kb := hget_lt fQ
      have c0 : ((0 : Nat) : Int) = 0 := rfl
      have c1 : ((1 : Nat) : Int) = 1 := rfl
      have o0 : bits .or .u8 0 0 = 0 := by decide
      have o1 : bits .or .u8 1 0 = 1 := by decide
      have o2 : bits .or .u8 0 2 = 2 := by decide
      have o3 : bits .or .u8 1 2 = 3 := by decide
      clear fQ fT fR
      obtain rfl | rfl : x = 0 ∨ x = 1 := by omega
      · obtain rfl | rfl : y = 0 ∨ y = 1 := by omega
        · try simp only [c0]
          try simp only [c1]
          have A2 := hid (fun w => padd_v q.twice z w bq2 bz)
          refine wp_region_later_tail 9 (by kernel_rfl) (by kernel_rfl) ?_
          simp only [List.take_succ_cons, List.take_zero, List.drop_succ_cons, List.drop_zero]
          repeat ((go_big_quiet_step ((first | (go_at_call 40; with_reducible exact calls_later (T1.out _)) | (go_at_call 20; with_reducible exact calls_later (A2.out _))))))
          refine wpQuiet_nil ?_
          intro wL hwL
          obtain ⟨⟨w8, hL⟩, e8⟩ := hwL
          change wL = w8 at e8
          subst e8
          obtain ⟨gQ, lQ, nQ, mQ⟩ := kept (jQ ⟨_, hL⟩)
          obtain ⟨gT, lT, nT, mT⟩ := kept (jT ⟨_, hL⟩)
          obtain ⟨gR, lR, nR, mR⟩ := kept (jR ⟨_, hL⟩)
          go_wp2_with fail
          exact ⟨⟨k + 1, q.twice.add z, by omega, congrArg (Value.int .i64) HCNT.out, HN.out.trans (congrArg _ HZ.out), by go_simp, by go_simp, by go_simp, below_blk' (below_to b4.out hL) r7 _⟩, by first | (simp [intOf]; done) | (simp [intOf]; omega)⟩
        · try simp only [c0]
          try simp only [c1]
          have A2 := hid (fun w => padd_v q.twice b w bq2 hb)
          refine wp_region_later_tail 9 (by kernel_rfl) (by kernel_rfl) ?_
          simp only [List.take_succ_cons, List.take_zero, List.drop_succ_cons, List.drop_zero]
          repeat ((go_big_quiet_step ((first | (go_at_call 40; with_reducible exact calls_later (T1.out _)) | (go_at_call 20; with_reducible exact calls_later (A2.out _))))))
          refine wpQuiet_nil ?_
          intro wL hwL
          obtain ⟨⟨w8, hL⟩, e8⟩ := hwL
          change wL = w8 at e8
          subst e8
          obtain ⟨gQ, lQ, nQ, mQ⟩ := kept (jQ ⟨_, hL⟩)
          obtain ⟨gT, lT, nT, mT⟩ := kept (jT ⟨_, hL⟩)
          obtain ⟨gR, lR, nR, mR⟩ := kept (jR ⟨_, hL⟩)
          go_wp2_with fail
          exact ⟨⟨k + 1, q.twice.add b, by omega, congrArg (Value.int .i64) HCNT.out, HN.out.trans (congrArg _ rfl), by go_simp, by go_simp, by go_simp, below_blk' (below_to b4.out hL) r7 _⟩, by first | (simp [intOf]; done) | (simp [intOf]; omega)⟩
      · obtain rfl | rfl : y = 0 ∨ y = 1 := by omega
        · try simp only [c0]
          try simp only [c1]
          have A2 := hid (fun w => padd_v q.twice p w bq2 hp)
          refine wp_region_later_tail 9 (by kernel_rfl) (by kernel_rfl) ?_
          simp only [List.take_succ_cons, List.take_zero, List.drop_succ_cons, List.drop_zero]
          repeat ((go_big_quiet_step ((first | (go_at_call 40; with_reducible exact calls_later (T1.out _)) | (go_at_call 20; with_reducible exact calls_later (A2.out _))))))
          refine wpQuiet_nil ?_
          intro wL hwL
          obtain ⟨⟨w8, hL⟩, e8⟩ := hwL
          change wL = w8 at e8
          subst e8
          obtain ⟨gQ, lQ, nQ, mQ⟩ := kept (jQ ⟨_, hL⟩)
          obtain ⟨gT, lT, nT, mT⟩ := kept (jT ⟨_, hL⟩)
          obtain ⟨gR, lR, nR, mR⟩ := kept (jR ⟨_, hL⟩)
          go_wp2_with fail
          exact ⟨⟨k + 1, q.twice.add p, by omega, congrArg (Value.int .i64) HCNT.out, HN.out.trans (congrArg _ rfl), by go_simp, by go_simp, by go_simp, below_blk' (below_to b4.out hL) r7 _⟩, by first | (simp [intOf]; done) | (simp [intOf]; omega)⟩
        · try simp only [c0]
          try simp only [c1]
          have A2 := hid (fun w => padd_v q.twice d w bq2 bd)
          refine wp_region_later_tail 9 (by kernel_rfl) (by kernel_rfl) ?_
          simp only [List.take_succ_cons, List.take_zero, List.drop_succ_cons, List.drop_zero]
          repeat ((go_big_quiet_step ((first | (go_at_call 40; with_reducible exact calls_later (T1.out _)) | (go_at_call 20; with_reducible exact calls_later (A2.out _))))))
          refine wpQuiet_nil ?_
          intro wL hwL
          obtain ⟨⟨w8, hL⟩, e8⟩ := hwL
          change wL = w8 at e8
          subst e8
          obtain ⟨gQ, lQ, nQ, mQ⟩ := kept (jQ ⟨_, hL⟩)
          obtain ⟨gT, lT, nT, mT⟩ := kept (jT ⟨_, hL⟩)
          obtain ⟨gR, lR, nR, mR⟩ := kept (jR ⟨_, hL⟩)
          go_wp2_with fail
          exact ⟨⟨k + 1, q.twice.add d, by omega, congrArg (Value.int .i64) HCNT.out, HN.out.trans (congrArg _ HD.out), by go_simp, by go_simp, by go_simp, below_blk' (below_to b4.out hL) r7 _⟩, by first | (simp [intOf]; done) | (simp [intOf]; omega)⟩
    · have hkn : k = 256 := by omega
      subst hkn
      have hlt2 : decide ((0 : Int) ≤ 255 - ((256 : Nat) : Int)) = false := by decide
      have hq2 : P4.both b p m n = q := HQ.out
      have HQ2 := hid hq2
      clear hq2 HQ
      have lR := hget_lt gR
      go_wp2_with fail
      refine bodyPost_ret (v := .agg (pt q.x q.y q.z q.t true)) (results_cell_row Tryd.results21 _ _ (W.heap.size + 1 + 1 + 1) 46 (pt q.x q.y q.z q.t true) (0, 0) _ (by rfl) (by rw [← hget_eq]; go_simp) Tryd.underlying46 rfl (by rw [info_Pt]; go_simp)) rfl ?_
      exact ⟨by rw [HQ2.out], below_blk' b3.out (by omega) _⟩
set_option maxRecDepth 100000 in
theorem pboth_v (p : P4) (m n : Nat) (W : World) (hp : p.bd) (hm : m < p2) (hn : n < p2) : Calls Tryd.prog 21 #[pv p, .agg (quad m), .agg (quad n)] W fun r w' => r = .returned (pv (P4.both (dP bsB) p m n)) ∧ Below W.heap.size W w' :=
  pboth_core (dP bsB) p m n W pbase_any P4.base_bd hp hm hn

end Go.Proofs.YtceljjnohjnepaaDoor

namespace Go.Proofs.YtceljjnohjnepaaDoor
open Go.RowKit

/-- A word as a number. -/
def UW (x : UInt64) : Int := (x.toNat : Int)
set_option maxRecDepth 100000 in
theorem uw_nonneg (x : UInt64) : 0 ≤ UW x := Int.natCast_nonneg _
set_option maxRecDepth 100000 in
theorem uw_lt (x : UInt64) : UW x < 18446744073709551616 := by have := x.toNat_lt; unfold UW; omega
set_option maxRecDepth 100000 in
theorem wrap_nat (n : Nat) : IntKind.u64.wrap (n : Int) = ((n % 18446744073709551616 : Nat) : Int) := by rw [IntKind.wrap_u64]; rfl
section
variable (x y : UInt64)
set_option maxRecDepth 100000 in
@[go_sem] theorem u_xor : bits .xor .u64 (UW x) (UW y) = UW (x ^^^ y) := by unfold UW; rw [u64_xor_nat _ _ x.toNat_lt y.toNat_lt, UInt64.toNat_xor]
set_option maxRecDepth 100000 in
@[go_sem] theorem u_and : bits .and .u64 (UW x) (UW y) = UW (x &&& y) := by unfold UW; rw [u64_and_nat _ _ x.toNat_lt y.toNat_lt, UInt64.toNat_and]
set_option maxRecDepth 100000 in
@[go_sem] theorem u_or : bits .or .u64 (UW x) (UW y) = UW (x ||| y) := by unfold UW; rw [u64_or_nat _ _ x.toNat_lt y.toNat_lt, UInt64.toNat_or]
set_option maxRecDepth 100000 in
@[go_sem] theorem u_add : IntKind.u64.wrap (UW x + UW y) = UW (x + y) := by unfold UW; rw [← Int.natCast_add, wrap_nat, UInt64.toNat_add]
set_option maxRecDepth 100000 in
theorem u_shr (n : Nat) (h : n < 64) : UW x / (2 : Int) ^ n = UW (x >>> UInt64.ofNat n) := by
  unfold UW
  rw [UInt64.toNat_shiftRight, UInt64.toNat_ofNat', Nat.mod_eq_of_lt (a := n) (b := 2 ^ 64) (by omega), Nat.mod_eq_of_lt h, Nat.shiftRight_eq_div_pow, Int.natCast_ediv, Int.natCast_pow]; rfl
set_option maxRecDepth 100000 in
theorem u_shl (n : Nat) (h : n < 64) : IntKind.u64.wrap (UW x * (2 : Int) ^ n) = UW (x <<< UInt64.ofNat n) := by
  unfold UW
  rw [UInt64.toNat_shiftLeft, UInt64.toNat_ofNat', Nat.mod_eq_of_lt (a := n) (b := 2 ^ 64) (by omega), Nat.mod_eq_of_lt h, Nat.shiftLeft_eq]
  rw [show (x.toNat : Int) * (2 : Int) ^ n = ((x.toNat * 2 ^ n : Nat) : Int) by rw [Int.natCast_mul, Int.natCast_pow]; rfl, wrap_nat]
end
set_option maxRecDepth 100000 in
@[go_sem] theorem u_shr7 (x : UInt64) : UW x / (128 : Int) = UW (x >>> 7) := u_shr x 7 (by decide)
set_option maxRecDepth 100000 in
@[go_sem] theorem u_shr6 (x : UInt64) : UW x / (64 : Int) = UW (x >>> 6) := u_shr x 6 (by decide)
set_option maxRecDepth 100000 in
@[go_sem] theorem u_self (x : UInt64) : IntKind.u64.wrap (UW x) = UW x := by unfold UW; rw [wrap_nat, Nat.mod_eq_of_lt x.toNat_lt]
set_option maxRecDepth 100000 in
theorem u_lit (n : Nat) (h : n < 18446744073709551616) : (n : Int) = UW (UInt64.ofNat n) := by unfold UW; rw [UInt64.toNat_ofNat', Nat.mod_eq_of_lt (a := n) (b := 2 ^ 64) (by omega)]

/-- Cells that hold words. -/
def wrow (l : List UInt64) : Array Value := (l.map fun (x : UInt64) => Value.int .u64 (UW x)).toArray
set_option maxRecDepth 100000 in
theorem wrow_size (l : List UInt64) : (wrow l).size = l.length := by simp [wrow]
set_option maxRecDepth 100000 in
theorem wrow_get (l : List UInt64) {j : Nat} (h : j < l.length) : (wrow l)[j]? = some (.int .u64 (UW (l.getD j 0))) := by simp [wrow, h]
set_option maxRecDepth 100000 in
theorem wrow_set (l : List UInt64) (j : Nat) (v : UInt64) : (wrow l).setIfInBounds j (.int .u64 (UW v)) = wrow (l.set j v) := by
  unfold wrow
  rw [List.setIfInBounds_toArray, List.map_set]
section
variable {w : World} {b : Nat} {l : List UInt64} {T : TypeId} {fz : Nat × Nat}
set_option maxRecDepth 100000 in
theorem wrow_cell (h : w.heap[b]? = some (.cells (wrow l) T fz)) {j : Nat} (hj : j < l.length) : w.cell? ⟨b, j, none⟩ = some (.int .u64 (UW (l.getD j 0))) := by
  rw [cell_at h, wrow_get l hj]
set_option maxRecDepth 100000 in
theorem wrow_store (h : w.heap[b]? = some (.cells (wrow l) T fz)) (j : Nat) (v : UInt64) : (w.setCell ⟨b, j, none⟩ (.int .u64 (UW v))).heap[b]? = some (.cells (wrow (l.set j v)) T fz) := by
  rw [at_setCell h, wrow_set]
set_option maxRecDepth 100000 in
theorem wrow_one (l : List UInt64) : (wrow l).all (·.oneCell') = true := by
  rw [Array.all_eq_true_iff_forall_mem]
  intro v hv
  simp only [wrow, List.mem_toArray, List.mem_map] at hv
  obtain ⟨x, _, rfl⟩ := hv
  rfl
end

set_option maxRecDepth 100000 in
theorem wrow_range {w : World} {b : Nat} {l : List UInt64} {T : TypeId} {fz : Nat × Nat} (h : w.heap[b]? = some (.cells (wrow l) T fz)) (j : Nat) (hj : j < l.length) : w.cell? ⟨b, j, none⟩ = some (.int .u64 (UW (l.getD j 0))) := wrow_cell h hj
set_option maxRecDepth 100000 in
theorem oct_cells {w : World} {b : Nat} {x0 x1 x2 x3 x4 x5 x6 x7 : UInt64} {T : TypeId} {fz : Nat × Nat} (h : w.heap[b]? = some (.cells (wrow [x0, x1, x2, x3, x4, x5, x6, x7]) T fz)) :
    w.cell? ⟨b, 0, none⟩ = some (.int .u64 (UW x0)) ∧ w.cell? ⟨b, 1, none⟩ = some (.int .u64 (UW x1)) ∧ w.cell? ⟨b, 2, none⟩ = some (.int .u64 (UW x2)) ∧ w.cell? ⟨b, 3, none⟩ = some (.int .u64 (UW x3)) ∧
    w.cell? ⟨b, 4, none⟩ = some (.int .u64 (UW x4)) ∧ w.cell? ⟨b, 5, none⟩ = some (.int .u64 (UW x5)) ∧ w.cell? ⟨b, 6, none⟩ = some (.int .u64 (UW x6)) ∧ w.cell? ⟨b, 7, none⟩ = some (.int .u64 (UW x7)) :=
  ⟨cell_at h 0, cell_at h 1, cell_at h 2, cell_at h 3, cell_at h 4, cell_at h 5, cell_at h 6, cell_at h 7⟩

set_option maxRecDepth 100000 in
theorem set8 {w : World} {b : Nat} {x0 x1 x2 x3 x4 x5 x6 x7 : UInt64} {T : TypeId} {fz : Nat × Nat} (h : w.heap[b]? = some (.cells (wrow [x0, x1, x2, x3, x4, x5, x6, x7]) T fz)) (y0 y1 y2 y3 y4 y5 y6 y7 : UInt64) :
    (((((((w.setCell ⟨b, 0, none⟩ (.int .u64 (UW y0))).setCell ⟨b, 1, none⟩ (.int .u64 (UW y1))).setCell ⟨b, 2, none⟩ (.int .u64 (UW y2))).setCell ⟨b, 3, none⟩ (.int .u64 (UW y3))).setCell ⟨b, 4, none⟩ (.int .u64 (UW y4))).setCell ⟨b, 5, none⟩ (.int .u64 (UW y5))).setCell ⟨b, 6, none⟩ (.int .u64 (UW y6))).setCell ⟨b, 7, none⟩ (.int .u64 (UW y7)) =
      blk w b (.cells (wrow [y0, y1, y2, y3, y4, y5, y6, y7]) T fz) := by
  have hlt := lt_blk h
  rw [setCell_blk h, blk_setCell hlt, blk_setCell hlt, blk_setCell hlt, blk_setCell hlt, blk_setCell hlt, blk_setCell hlt, blk_setCell hlt]
  simp only [wrow_set, List.set_cons_zero, List.set_cons_succ]

end Go.Proofs.YtceljjnohjnepaaDoor

namespace Go.Proofs.YtceljjnohjnepaaDoor.SH

def ror (n : Nat) (x : UInt64) : UInt64 := (x >>> UInt64.ofNat n) ||| (x <<< UInt64.ofNat (64 - n))
def s0 (x : UInt64) : UInt64 := (ror 1 x ^^^ ror 8 x) ^^^ (x >>> 7)
def s1 (x : UInt64) : UInt64 := (ror 19 x ^^^ ror 61 x) ^^^ (x >>> 6)
def S0 (x : UInt64) : UInt64 := (ror 28 x ^^^ ror 34 x) ^^^ ror 39 x
def S1 (x : UInt64) : UInt64 := (ror 14 x ^^^ ror 18 x) ^^^ ror 41 x
/-- The word that stands behind a list of words (16 at least). -/
def word (l : List UInt64) : UInt64 := l.getD (l.length - 16) 0 + s0 (l.getD (l.length - 15) 0) + l.getD (l.length - 7) 0 + s1 (l.getD (l.length - 2) 0)
/-- So many words more. -/
def ext : Nat → List UInt64 → List UInt64
  | 0, l => l
  | n + 1, l => ext n l ++ [word (ext n l)]
set_option maxRecDepth 100000 in
theorem ext_length (n : Nat) (l : List UInt64) : (ext n l).length = l.length + n := by
  induction n with
  | zero => rfl
  | succ n ih => rw [ext, List.length_append, ih]; rfl
/-- Eight words. -/
structure St where
  a : UInt64
  b : UInt64
  c : UInt64
  d : UInt64
  e : UInt64
  f : UInt64
  g : UInt64
  h : UInt64
def tU (x : St) (k w : UInt64) : UInt64 := x.h + S1 x.e + (x.g ^^^ (x.e &&& (x.f ^^^ x.g))) + k + w
def tV (x : St) : UInt64 := S0 x.a + ((x.a &&& x.b) ||| (x.c &&& (x.a ||| x.b)))
def round (x : St) (k w : UInt64) : St := ⟨tU x k w + tV x, x.a, x.b, x.c, x.d + tU x k w, x.e, x.f, x.g⟩
def K : List UInt64 := [
  0x428a2f98d728ae22, 0x7137449123ef65cd, 0xb5c0fbcfec4d3b2f, 0xe9b5dba58189dbbc,
  0x3956c25bf348b538, 0x59f111f1b605d019, 0x923f82a4af194f9b, 0xab1c5ed5da6d8118,
  0xd807aa98a3030242, 0x12835b0145706fbe, 0x243185be4ee4b28c, 0x550c7dc3d5ffb4e2,
  0x72be5d74f27b896f, 0x80deb1fe3b1696b1, 0x9bdc06a725c71235, 0xc19bf174cf692694,
  0xe49b69c19ef14ad2, 0xefbe4786384f25e3, 0x0fc19dc68b8cd5b5, 0x240ca1cc77ac9c65,
  0x2de92c6f592b0275, 0x4a7484aa6ea6e483, 0x5cb0a9dcbd41fbd4, 0x76f988da831153b5,
  0x983e5152ee66dfab, 0xa831c66d2db43210, 0xb00327c898fb213f, 0xbf597fc7beef0ee4,
  0xc6e00bf33da88fc2, 0xd5a79147930aa725, 0x06ca6351e003826f, 0x142929670a0e6e70,
  0x27b70a8546d22ffc, 0x2e1b21385c26c926, 0x4d2c6dfc5ac42aed, 0x53380d139d95b3df,
  0x650a73548baf63de, 0x766a0abb3c77b2a8, 0x81c2c92e47edaee6, 0x92722c851482353b,
  0xa2bfe8a14cf10364, 0xa81a664bbc423001, 0xc24b8b70d0f89791, 0xc76c51a30654be30,
  0xd192e819d6ef5218, 0xd69906245565a910, 0xf40e35855771202a, 0x106aa07032bbd1b8,
  0x19a4c116b8d2d0c8, 0x1e376c085141ab53, 0x2748774cdf8eeb99, 0x34b0bcb5e19b48a8,
  0x391c0cb3c5c95a63, 0x4ed8aa4ae3418acb, 0x5b9cca4f7763e373, 0x682e6ff3d6b2b8a3,
  0x748f82ee5defb2fc, 0x78a5636f43172f60, 0x84c87814a1f0ab72, 0x8cc702081a6439ec,
  0x90befffa23631e28, 0xa4506cebde82bde9, 0xbef9a3f7b2c67915, 0xc67178f2e372532b,
  0xca273eceea26619c, 0xd186b8c721c0c207, 0xeada7dd6cde0eb1e, 0xf57d4f7fee6ed178,
  0x06f067aa72176fba, 0x0a637dc5a2c898a6, 0x113f9804bef90dae, 0x1b710b35131c471b,
  0x28db77f523047d84, 0x32caab7b40c72493, 0x3c9ebe0a15c9bebc, 0x431d67c49c100d4c,
  0x4cc5d4becb3e42b6, 0x597f299cfc657e2a, 0x5fcb6fab3ad6faec, 0x6c44198c4a475817]
def init : St := ⟨0x6a09e667f3bcc908, 0xbb67ae8584caa73b, 0x3c6ef372fe94f82b, 0xa54ff53a5f1d36f1, 0x510e527fade682d1, 0x9b05688c2b3e6c1f, 0x1f83d9abfb41bd6b, 0x5be0cd19137e2179⟩
/-- The first n rounds. -/
def rounds (W : List UInt64) (x : St) : Nat → St
  | 0 => x
  | n + 1 => round (rounds W x n) (K.getD n 0) (W.getD n 0)
def plus (x y : St) : St := ⟨x.a + y.a, x.b + y.b, x.c + y.c, x.d + y.d, x.e + y.e, x.f + y.f, x.g + y.g, x.h + y.h⟩
/-- Eight bytes, the highest first. -/
def be : List UInt8 → UInt64 := List.foldl (fun x c => (x <<< 8) ||| c.toUInt64) 0
/-- The sixteen words of a block. -/
def words (b : List UInt8) (n : Nat) : List UInt64 := (List.range n).map fun i => be ((b.drop (8 * i)).take 8)
def block (h : St) (b : List UInt8) : St := plus h (rounds (ext 64 (words b 16)) h 80)
/-- What comes of the first k blocks. -/
def run (l : List UInt8) : Nat → St
  | 0 => init
  | k + 1 => block (run l k) ((l.drop (128 * k)).take 128)
def bytes8 (x : UInt64) : List UInt8 := ([56, 48, 40, 32, 24, 16, 8, 0] : List UInt64).map fun n => (x >>> n).toUInt8
/-- How many noughts stand behind the bit. -/
def zeros (n : Nat) : Nat := (112 + 127 - n % 128) % 128
def pad (l : List UInt8) : List UInt8 := l ++ [0x80] ++ List.replicate (zeros l.length) 0 ++ List.replicate 8 0 ++ bytes8 (8 * UInt64.ofNat l.length)
def out (x : St) : List UInt8 := [x.a, x.b, x.c, x.d, x.e, x.f, x.g, x.h].flatMap bytes8
def sha (l : List UInt8) : List UInt8 := out (run (pad l) ((pad l).length / 128))

set_option maxRecDepth 100000 in
theorem sha_nil : (sha []).take 4 = [0xcf, 0x83, 0xe1, 0x35] := by decide +kernel
set_option maxRecDepth 100000 in
theorem sha_abc : (sha [97, 98, 99]).take 4 = [0xdd, 0xaf, 0x35, 0xa1] := by decide +kernel
set_option maxRecDepth 100000 in
theorem sha_length (l : List UInt8) : (sha l).length = 64 := by simp [sha, out, bytes8]

set_option maxRecDepth 100000 in
theorem run_append (l m : List UInt8) (k : Nat) (h : 128 * k ≤ l.length) : run (l ++ m) k = run l k := by
  induction k with
  | zero => rfl
  | succ k ih =>
    rw [run, run, ih (by omega), List.drop_append_of_le_length (by omega), List.take_append_of_le_length (by rw [List.length_drop]; omega)]
set_option maxRecDepth 100000 in
theorem pad_length (l : List UInt8) : (pad l).length % 128 = 0 := by
  simp [pad, bytes8, zeros]; omega

end Go.Proofs.YtceljjnohjnepaaDoor.SH
