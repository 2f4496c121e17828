/- The walks of bits and of the order's numbers. -/
import Derived.Test.YtaencgjlneohnaaOrdP
import Derived.Deep.RegionHeld3
namespace Go.Proofs.Ytaencgjlneohnaa
open Go.RowKit

@[go_sem] theorem idx4_0 (a b c d : Value) (w : World) : (Instr.index 24 (.agg #[a, b, c, d]) (.int .i64 0)).run Try.prog w = .ok a w := by kernel_rfl
@[go_sem] theorem idx4_1 (a b c d : Value) (w : World) : (Instr.index 24 (.agg #[a, b, c, d]) (.int .i64 1)).run Try.prog w = .ok b w := by kernel_rfl
@[go_sem] theorem idx4_2 (a b c d : Value) (w : World) : (Instr.index 24 (.agg #[a, b, c, d]) (.int .i64 2)).run Try.prog w = .ok c w := by kernel_rfl
@[go_sem] theorem idx4_3 (a b c d : Value) (w : World) : (Instr.index 24 (.agg #[a, b, c, d]) (.int .i64 3)).run Try.prog w = .ok d w := by kernel_rfl

set_option maxHeartbeats 400000 in
theorem order_any (w : World) : Calls Try.prog 26 #[] w fun e w' => e = .returned (.agg #[.int .u64 6346243789798364141, .int .u64 1503914060200516822, .int .u64 0, .int .u64 1152921504606846976]) ∧ ∃ o, w.alloc o = w' := by
  go_enter Try.func26, Try.ntmps26
  go_wp2
  exact bodyPost_ret (v := .agg #[.int .u64 6346243789798364141, .int .u64 1503914060200516822, .int .u64 0, .int .u64 1152921504606846976]) (by simp [results, Try.results26, go_sem]) rfl ⟨rfl, _, rfl⟩

set_option maxHeartbeats 1000000 in
theorem push_any (b : Nat) (n bn : Nat) (bit : Int) (w : World) (hb0 : w.heap[b]? = some (.cells (quad n) 26 (0, 0))) (hn : n < ordL) (hbn : (bn : Int) = bit) (hb1 : bn ≤ 1) :
    Calls Try.prog 25 #[.pointer (some ⟨b, 0, none⟩), .int .u64 bit] w fun e w' => e = .returned (.tuple #[]) ∧ Only b w w' ∧ w'.heap[b]? = some (.cells (quad ((2 * n + bn) % ordL)) 26 (0, 0)) := by
  obtain ⟨a0, a1, a2, a3, hq, hw4⟩ := quad_w4 n (by unfold ordL at hn; omega)
  have HW4 := hid hw4
  obtain ⟨h0, h1, h2, h3, h0', h1', h2', h3', _⟩ := hw4
  have hb := hb0
  rw [hq] at hb
  have h0 := And.intro h0 h0'
  have h1 := And.intro h1 h1'
  have h2 := And.intro h2 h2'
  have h3 := And.intro h3 h3'
  have hbit : 0 ≤ bit ∧ bit ≤ 1 := by omega
  have HBN := hid hbn
  have HN := hid hn
  clear hb0 hq hbn hn h0' h1' h2' h3'
  have hlt := lt_blk hb
  have c0 : w.cell? ⟨b, 0, none⟩ = some (.int .u64 a0) := cell_at hb 0
  have c1 : w.cell? ⟨b, 1, none⟩ = some (.int .u64 a1) := cell_at hb 1
  have c2 : w.cell? ⟨b, 2, none⟩ = some (.int .u64 a2) := cell_at hb 2
  have c3 : w.cell? ⟨b, 3, none⟩ = some (.int .u64 a3) := cell_at hb 3
  have hf := free_at hb
  have HB := hid hb
  clear hb
  go_enter Try.func25, Try.ntmps25
  go_wp2_with fail
  refine wp_loop_rounds 5 ?_
  rw [rounds_succ]
  go_wp2_with fail
  rw [rounds_succ]
  go_wp2_with fail
  rw [rounds_succ]
  go_wp2_with fail
  rw [rounds_succ]
  go_wp2_with fail
  rw [rounds_succ]
  go_wp2_with fail
  obtain ⟨x0, E0, x0a, x0b, x0c, x0d⟩ := or1_facts a0 bit h0.1 hbit
  obtain ⟨x1, E1, x1a, x1b, x1c, x1d⟩ := or1_facts a1 (a0 / 9223372036854775808) h1.1 (by omega)
  obtain ⟨x2, E2, x2a, x2b, x2c, x2d⟩ := or1_facts a2 (a1 / 9223372036854775808) h2.1 (by omega)
  obtain ⟨x3, E3, x3a, x3b, x3c, x3d⟩ := or1_facts a3 (a2 / 9223372036854775808) h3.1 (by omega)
  rw [E0, E1, E2, E3]
  clear E0 E1 E2 E3 c0 c1 c2 c3 hf
  simp only [setCell_blk HB.out, blk_setCell hlt, List.setIfInBounds_toArray, List.set_cons_zero, List.set_cons_succ]
  obtain ⟨D, hD⟩ : ∃ D, D = w.heap.size := ⟨_, rfl⟩
  obtain ⟨w1, hw1⟩ : ∃ w1, w1 = (blk w b (.cells #[.int .u64 x0, .int .u64 x1, .int .u64 x2, .int .u64 x3] 26 (0, 0))).alloc (.cells #[.int .u64 0, .int .u64 0, .int .u64 0, .int .u64 0] 24) := ⟨_, rfl⟩
  have ob : Only b w w1 := by rw [hw1]; exact ((Only.refl b w).blk (.inl rfl) _).alloc _
  have hb1 : w1.heap[b]? = some (.cells #[.int .u64 x0, .int .u64 x1, .int .u64 x2, .int .u64 x3] 26 (0, 0)) := by rw [hw1]; exact alloc_old (blk_heap hlt)
  have hd1 : w1.heap[D]? = some (.cells #[.int .u64 0, .int .u64 0, .int .u64 0, .int .u64 0] 24 (0, 0)) := by
    rw [hw1, hD, ← blk_size (w := w) (b := b) (o := .cells #[.int .u64 x0, .int .u64 x1, .int .u64 x2, .int .u64 x3] 26 (0, 0))]; exact alloc_at _ _
  have hbD : b ≠ D := by omega
  have zD : w.heap.size ≤ D := by omega
  rw [← hw1]
  rw [← hD]
  clear hw1 hD HB
  refine (order_any _).mono ?_
  rintro e w2 ⟨rfl, o, rfl⟩
  have ob2 := ob.alloc o
  have hb2 := alloc_old (o' := o) hb1
  have hd2 := alloc_old (o' := o) hd1
  generalize w1.alloc o = w2 at *
  clear hb1 hd1 ob
  have c0 : w2.cell? ⟨b, 0, none⟩ = some (.int .u64 x0) := cell_at hb2 0
  have c1 : w2.cell? ⟨b, 1, none⟩ = some (.int .u64 x1) := cell_at hb2 1
  have c2 : w2.cell? ⟨b, 2, none⟩ = some (.int .u64 x2) := cell_at hb2 2
  have c3 : w2.cell? ⟨b, 3, none⟩ = some (.int .u64 x3) := cell_at hb2 3
  have d0 : w2.cell? ⟨D, 0, none⟩ = some (.int .u64 0) := cell_at hd2 0
  have d1 : w2.cell? ⟨D, 1, none⟩ = some (.int .u64 0) := cell_at hd2 1
  have d2 : w2.cell? ⟨D, 2, none⟩ = some (.int .u64 0) := cell_at hd2 2
  have d3 : w2.cell? ⟨D, 3, none⟩ = some (.int .u64 0) := cell_at hd2 3
  have hf := free_at hb2
  have hg := free_at hd2
  have HB := hid hb2
  have HD := hid hd2
  clear hb2 hd2
  go_wp2_with fail
  refine wp_loop_rounds 5 ?_
  rw [rounds_succ]
  go_wp2_with (refine wpList_sub64 rfl rfl _ _ _ rfl rfl rfl (by omega) (by omega) (by omega) (by omega) (by omega) ?_; intro d0 e0 da0 db0 ea0 eb0 pa0 pb0)
  rw [rounds_succ]
  go_wp2_with (refine wpList_sub64 rfl rfl _ _ _ rfl rfl rfl (by omega) (by omega) (by omega) (by omega) (by omega) ?_; intro d1 e1 da1 db1 ea1 eb1 pa1 pb1)
  rw [rounds_succ]
  go_wp2_with (refine wpList_sub64 rfl rfl _ _ _ rfl rfl rfl (by omega) (by omega) (by omega) (by omega) (by omega) ?_; intro d2 e2 da2 db2 ea2 eb2 pa2 pb2)
  rw [rounds_succ]
  go_wp2_with (refine wpList_sub64 rfl rfl _ _ _ rfl rfl rfl (by omega) (by omega) (by omega) (by omega) (by omega) ?_; intro d3 e3 da3 db3 ea3 eb3 pa3 pb3)
  rw [rounds_succ]
  obtain ⟨W0, W1⟩ := push_law HN.out HBN.out hb1 HW4.out x0a x0b x0c x0d x1a x1b x1c x1d x2a x2b x2c x2d x3a x3b x3c x3d da0 db0 da1 db1 da2 db2 da3 db3 pa0 pb0 pa1 pb1 pa2 pb2 pa3 pb3
  have W0' := hid W0
  have W1' := hid W1
  clear W0 W1 x0c x0d x1c x1d x2c x2d x3c x3d pa0 pb0 pa1 pb1 pa2 pb2 pa3 pb3
  obtain he | he : e3 = 0 ∨ e3 = 1 := by omega
  · have W := W0'.out he
    subst he
    have WH := hid W
    clear W W0' W1'
    go_wp2_with fail
    go_end0
    have W := WH.out
    refine ⟨rfl, (((((((ob2.setCell (.inr zD) _).setCell (.inr zD) _).setCell (.inr zD) _).setCell (.inr zD) _).setCell (.inl rfl) _).setCell (.inl rfl) _).setCell (.inl rfl) _).setCell (.inl rfl) _, ?_⟩
    rw [W.quad]
    have := at_setCell (at_setCell (at_setCell (at_setCell (at_setCell_other (at_setCell_other (at_setCell_other (at_setCell_other HB.out (p := ⟨D, 0, none⟩) hbD (.int .u64 d0)) (p := ⟨D, 1, none⟩) hbD (.int .u64 d1)) (p := ⟨D, 2, none⟩) hbD (.int .u64 d2)) (p := ⟨D, 3, none⟩) hbD (.int .u64 d3)) 0 (.int .u64 d0)) 1 (.int .u64 d1)) 2 (.int .u64 d2)) 3 (.int .u64 d3)
    simpa using this
  · have W := W1'.out he
    subst he
    have WH := hid W
    clear W W0' W1'
    go_wp2_with fail
    go_end0
    have W := WH.out
    refine ⟨rfl, ((((ob2.setCell (.inr zD) _).setCell (.inr zD) _).setCell (.inr zD) _).setCell (.inr zD) _), ?_⟩
    rw [W.quad]
    exact at_setCell_other (at_setCell_other (at_setCell_other (at_setCell_other HB.out (p := ⟨D, 0, none⟩) hbD (.int .u64 d0)) (p := ⟨D, 1, none⟩) hbD (.int .u64 d1)) (p := ⟨D, 2, none⟩) hbD (.int .u64 d2)) (p := ⟨D, 3, none⟩) hbD (.int .u64 d3)

end Go.Proofs.Ytaencgjlneohnaa
