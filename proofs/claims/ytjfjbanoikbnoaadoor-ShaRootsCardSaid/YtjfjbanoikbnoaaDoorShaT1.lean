/- The walks of the document's reckoning of roots: times, above. -/
import Derived.Test.YtjfjbanoikbnoaaDoorShaT
import Derived.Test.YtjfjbanoikbnoaaDoorShaW3
namespace Go.Proofs.YtjfjbanoikbnoaaDoor
open Go.RowKit

@[go_sem] theorem u_mul (x y : UInt64) : IntKind.u64.wrap (UW x * UW y) = UW (x * y) := by unfold UW; rw [← Int.natCast_mul, wrap_nat, UInt64.toNat_mul]
@[go_sem] theorem u_and24 (x : UInt64) : bits .and .u64 (UW x) (16777215 : Int) = UW (x &&& 16777215) := u_and x 16777215
@[go_sem] theorem u_shr24 (x : UInt64) : UW x / (16777216 : Int) = UW (x >>> 24) := u_shr x 24 (by decide)
theorem info_big : (Tryd.prog.info? 46).map (·.size) = some 14 := by kernel_rfl
theorem zero14 (w : World) : (zeroValue 46).run Tryd.prog w = .ok (.agg (wrow (List.replicate 14 0))) w := by kernel_rfl
theorem store14 (l : List UInt64) (hl : l.length = 14) (w : World) : (storeCells ⟨w.heap.size, 0, none⟩ (wrow l).toList).run Tryd.prog (w.alloc (.cells #[.int .u64 0, .int .u64 0, .int .u64 0, .int .u64 0, .int .u64 0, .int .u64 0, .int .u64 0, .int .u64 0, .int .u64 0, .int .u64 0, .int .u64 0, .int .u64 0, .int .u64 0, .int .u64 0] 46)) = .ok () (w.alloc (.cells (wrow l) 46)) :=
  store_cells_new w 46 _ (wrow l) (by rw [info_big, wrow_size, hl]) (by rw [wrow_size, hl]; rfl) (wrow_one l)

set_option maxRecDepth 100000 in
set_option maxHeartbeats 2000000 in
theorem times_any (a b : List UInt64) (W : World) (ha : a.length = 14) (hb : b.length = 14) :
    Calls Tryd.prog 16 #[.agg (wrow a), .agg (wrow b)] W fun e w' => e = .returned (.agg (wrow (RT.times a b))) ∧ Below W.heap.size W w' := by
  have hsa : (wrow a).size = 14 := by rw [wrow_size, ha]
  have hsb : (wrow b).size = 14 := by rw [wrow_size, hb]
  have sa := store14 a ha
  have sb := store14 b hb
  go_enter Tryd.func16, Tryd.ntmps16
  go_wp2_with fail
  clear sa sb hsa hsb
  obtain ⟨N, hN⟩ : ∃ N, N = W.heap.size := ⟨_, rfl⟩
  rw [← hN]
  have HN := hid hN
  have HLA := hid ha
  have HLB := hid hb
  clear ha hb
  go_loopw [6] (fun i wr => ∃ n : Nat, n ≤ 14 ∧ i = .int .i64 (n : Int) ∧ wr.heap[N]? = some (.cells (wrow a) 46 (0, 0)) ∧ wr.heap[N + 1]? = some (.cells (wrow b) 46 (0, 0)) ∧ wr.heap[N + 1 + 1]? = some (.cells (wrow (List.replicate 14 0)) 46 (0, 0)) ∧
    wr.heap[N + 1 + 1 + 1]? = some (.cells (wrow (RT.outer a b n)) 46 (0, 0)) ∧ Below W.heap.size W wr) (fun i _ => (14 - intOf i).toNat)
  case atStart =>
    exact ⟨0, by omega, rfl, alloc_old (alloc_old (alloc_old (alloc_at' hN _))), alloc_old (alloc_old (alloc_at' (by simp [hN]) _)), alloc_old (alloc_at' (by simp [hN]) _), alloc_at' (by simp [hN]) _, below_alloc (below_alloc (below_alloc (below_new _) _) _) _⟩
  case round =>
    clear hN
    obtain ⟨n, hn, rfl, rA, rB, rR, rT, rb⟩ := hrel
    have RA := hid rA
    have RB := hid rB
    have RR := hid rR
    have RTT := hid rT
    have BE := hid rb
    clear rA rB rR rT rb
    by_cases hlt : n < 14
    · have hd : decide ((n : Int) < 14) = true := decide_eq_true (by omega)
      go_wp2_with fail
      have hto : RT.outer a b (n + 1) = RT.inner a b n (RT.outer a b n) (14 - n) := rfl
      have htl := RT.outer_length a b n
      generalize RT.outer a b n = t at *
      have HTO := hid hto
      clear hto hd
      go_loopw [7] (fun i wr => ∃ k : Nat, k ≤ 14 - n ∧ i = .int .i64 (k : Int) ∧ wr.heap[N]? = some (.cells (wrow a) 46 (0, 0)) ∧ wr.heap[N + 1]? = some (.cells (wrow b) 46 (0, 0)) ∧ wr.heap[N + 1 + 1]? = some (.cells (wrow (List.replicate 14 0)) 46 (0, 0)) ∧
        wr.heap[N + 1 + 1 + 1]? = some (.cells (wrow (RT.inner a b n t k)) 46 (0, 0)) ∧ Below W.heap.size W wr) (fun i _ => (14 - n - intOf i).toNat)
      case atStart => exact ⟨0, by omega, rfl, RA.out, RB.out, RR.out, RTT.out, BE.out⟩
      case round =>
        clear RA RB RR RTT BE
        obtain ⟨k, hk, rfl, rA, rB, rR, rT, rb⟩ := hrel
        have RA := hid rA
        have RB := hid rB
        have RR := hid rR
        have RTT := hid rT
        have BE := hid rb
        by_cases hlt2 : k < 14 - n
        · obtain ⟨m, hm⟩ : ∃ m, n + k = m := ⟨_, rfl⟩
          have hd : decide ((m : Int) < 14) = true := decide_eq_true (by omega)
          have hs1 : IntKind.i64.wrap ((k : Int) + (n : Int)) = (m : Int) := by rw [show (k : Int) + (n : Int) = (m : Int) by omega]; exact IntWalk.i64_in _ (by omega)
          have hs2 : IntKind.i64.wrap ((n : Int) + (k : Int)) = (m : Int) := by rw [show (n : Int) + (k : Int) = (m : Int) by omega]; exact IntWalk.i64_in _ (by omega)
          have ca := wrow_cell rA (j := n) (by rw [HLA.out]; omega)
          have cb := wrow_cell rB (j := k) (by rw [HLB.out]; omega)
          have ct := wrow_cell rT (j := m) (by rw [RT.inner_length, htl]; omega)
          have hf := free_at rT
          have hi : RT.inner a b n t (k + 1) = (RT.inner a b n t k).set m ((RT.inner a b n t k).getD m 0 + a.getD n 0 * b.getD k 0) := by rw [← hm]; rfl
          generalize (RT.inner a b n t k).getD m 0 = x at *
          generalize a.getD n 0 = y at *
          generalize b.getD k 0 = z at *
          have HI := hid hi
          have k0 : 0 ≤ (k : Int) := by omega
          have k1 : (k : Int) < 14 := by omega
          have n0 : 0 ≤ (n : Int) := by omega
          have n1 : (n : Int) < 14 := by omega
          have m0 : 0 ≤ (m : Int) := by omega
          have m1 : (m : Int) < 14 := by omega
          clear hi rA rB rR rT rb htl
          go_wp2_with fail
          refine still_tail 17 (by kernel_rfl) (by kernel_rfl) ?_
          simp only [List.take_succ_cons, List.take_zero, List.drop_succ_cons, List.drop_zero]
          repeat (first | (refine wpStill_step (fun K hK => ?_); go_simp; refine hK _ ?_; clear hK K; try go_ints))
          refine wpStill_nil ?_
          go_wp2_with fail
          refine ⟨⟨k + 1, by omega, by go_num, at_setCell_other RA.out (by show N ≠ N + 1 + 1 + 1; omega) _, at_setCell_other RB.out (by show N + 1 ≠ N + 1 + 1 + 1; omega) _, at_setCell_other RR.out (by show N + 1 + 1 ≠ N + 1 + 1 + 1; omega) _, ?_, (BE.out.setCell (by have := HN.out; simp; omega) _).drew⟩, by simp [intOf]; omega⟩
          rw [HI.out]
          exact wrow_store RTT.out _ _
        · have hk5 : k = 14 - n := by omega
          have hd : decide ((k : Int) + (n : Int) < 14) = false := decide_eq_false (by omega)
          have hs1 : IntKind.i64.wrap ((k : Int) + (n : Int)) = (k : Int) + (n : Int) := IntWalk.i64_in _ (by omega)
          rw [hk5, ← HTO.out] at rT
          have RT2 := hid rT
          clear rA rB rR rT rb RTT hk5
          go_wp2_with fail
          exact ⟨⟨n + 1, by omega, by go_num, RA.out, RB.out, RR.out, RT2.out, BE.out⟩, by simp [intOf]; omega⟩
    · have hd : decide ((n : Int) < 14) = false := decide_eq_false (by omega)
      have hn5 : n = 14 := by omega
      rw [hn5] at RTT
      have htm : (RT.cs (RT.outer a b 14) 14).1 = RT.times a b := rfl
      have htl := RT.outer_length a b 14
      generalize RT.outer a b 14 = t at *
      have HTM := hid htm
      clear htm hlt hn hn5
      go_wp2_with fail
      clear hd
      go_loopw [8, 9] (fun c i wr => ∃ n : Nat, n ≤ 14 ∧ c = .int .u64 (UW (RT.cs t n).2) ∧ i = .int .i64 (n : Int) ∧ wr.heap[N + 1 + 1]? = some (.cells (wrow (List.replicate 14 0)) 46 (0, 0)) ∧
        wr.heap[N + 1 + 1 + 1]? = some (.cells (wrow (RT.cs t n).1) 46 (0, 0)) ∧ Below W.heap.size W wr) (fun _ i _ => (14 - intOf i).toNat)
      case atStart => exact ⟨0, by omega, rfl, rfl, RR.out, RTT.out, BE.out⟩
      case round =>
        clear RA RB RR RTT BE
        obtain ⟨n, hn, rfl, rfl, rR, rT, rb⟩ := hrel
        have RR := hid rR
        have RTT := hid rT
        have BE := hid rb
        have hcl : (RT.cs t n).1.length = 14 := by rw [RT.cs_length, htl]
        by_cases hlt : n < 14
        · have hd : decide ((n : Int) < 14) = true := decide_eq_true (by omega)
          have ct := wrow_cell rT (j := n) (by rw [hcl]; exact hlt)
          have hf := free_at rT
          have n0 : 0 ≤ (n : Int) := by omega
          have n1 : (n : Int) < 14 := by omega
          have e1 : (RT.cs t (n + 1)).1 = (RT.cs t n).1.set n (((RT.cs t n).1.getD n 0 + (RT.cs t n).2) &&& 16777215) := rfl
          have e2 : (RT.cs t (n + 1)).2 = ((RT.cs t n).1.getD n 0 + (RT.cs t n).2) >>> 24 := rfl
          generalize (RT.cs t n).1.getD n 0 = x at *
          generalize (RT.cs t n).2 = y at *
          have E1 := hid e1
          have E2 := hid e2
          clear e1 e2 rR rT rb htl hcl
          go_wp2_with fail
          refine ⟨⟨n + 1, by omega, by rw [E2.out], by go_num, at_setCell_other RR.out (by show N + 1 + 1 ≠ N + 1 + 1 + 1; omega) _, ?_, (BE.out.setCell (by have := HN.out; simp; omega) _)⟩, by simp [intOf]; omega⟩
          rw [E1.out]
          exact wrow_store RTT.out _ _
        · have hd : decide ((n : Int) < 14) = false := decide_eq_false (by omega)
          have hn5 : n = 14 := by omega
          rw [hn5, HTM.out] at rT
          have hl : (RT.times a b).length = 14 := by rw [← HTM.out, RT.cs_length, htl]
          obtain ⟨c, hc⟩ : ∃ c, RT.times a b = c := ⟨_, rfl⟩
          rw [hc] at rT hl
          have HC := hid hc
          clear hc
          have RTC := hid rT
          have HL := hid hl
          clear rR rT rb RTT hn5 hcl htl hl HTM
          go_upto_region 16 with (fail)
          refine wp_region_list ?_
          refine wp_load_row (by rfl) _ _ (by rfl) (by rfl) RTC.out Tryd.underlying46 rfl (by rw [info_big, wrow_size, HL.out]) ?_
          refine wp_store_row (by rfl) _ _ _ (by rfl) (by rfl) (by rfl) RR.out (by rw [info_big, wrow_size, HL.out]) (by rw [wrow_size, wrow_size, HL.out]; rfl) (wrow_one _) ?_
          have RN := hid (blk_heap (o := .cells (wrow c) 46 (0, 0)) (lt_blk RR.out))
          go_wp2_with fail
          have hinf : (Tryd.prog.info? 46).map (·.size) = some (wrow c).size := by rw [info_big, wrow_size, HL.out]
          exact bodyPost_ret (v := .agg (wrow c)) (results_cell_row Tryd.results16 _ _ (N + 1 + 1) _ _ _ _ (by rfl) RN.out Tryd.underlying46 rfl hinf) rfl ⟨by rw [HC.out], below_blk' BE.out (by have := HN.out; omega) _⟩

set_option maxRecDepth 100000 in
set_option maxHeartbeats 2000000 in
theorem above_any (a b : List UInt64) (W : World) (ha : a.length = 14) (hb : b.length = 14) :
    Calls Tryd.prog 17 #[.agg (wrow a), .agg (wrow b)] W fun e w' => e = .returned (.bool (RT.above a b 14)) ∧ Below W.heap.size W w' := by
  have hsa : (wrow a).size = 14 := by rw [wrow_size, ha]
  have hsb : (wrow b).size = 14 := by rw [wrow_size, hb]
  have sa := store14 a ha
  have sb := store14 b hb
  go_enter Tryd.func17, Tryd.ntmps17
  go_wp2_with fail
  clear sa sb hsa hsb
  obtain ⟨N, hN⟩ : ∃ N, N = W.heap.size := ⟨_, rfl⟩
  rw [← hN]
  have HN := hid hN
  have HLA := hid ha
  have HLB := hid hb
  clear ha hb
  go_loopw [5] (fun i wr => ∃ n : Nat, n ≤ 14 ∧ i = .int .i64 ((n : Int) - 1) ∧ wr.heap[N]? = some (.cells (wrow a) 46 (0, 0)) ∧ wr.heap[N + 1]? = some (.cells (wrow b) 46 (0, 0)) ∧ RT.above a b 14 = RT.above a b n ∧ Below W.heap.size W wr) (fun i _ => (intOf i + 1).toNat)
  case atStart =>
    exact ⟨14, by omega, rfl, alloc_old (alloc_at' hN _), alloc_at' (by simp [hN]) _, rfl, below_alloc (below_new _) _⟩
  case round =>
    clear hN
    obtain ⟨n, hn, rfl, rA, rB, rE, rb⟩ := hrel
    have RA := hid rA
    have RB := hid rB
    have RE := hid rE
    have BE := hid rb
    by_cases h0 : n = 0
    · subst h0
      have hd : decide (((0 : Nat) : Int) - 1 ≥ 0) = false := rfl
      have hd2 : decide (0 ≤ ((0 : Nat) : Int) - 1) = false := rfl
      clear rA rB rE rb
      go_wp2_with fail
      go_ret
      exact ⟨by rw [RE.out]; rfl, BE.out⟩
    · obtain ⟨k, rfl⟩ : ∃ k, n = k + 1 := ⟨n - 1, by omega⟩
      have hk1 : ((k + 1 : Nat) : Int) - 1 = (k : Int) := by omega
      rw [hk1]
      have hd : decide ((k : Int) ≥ 0) = true := decide_eq_true (by omega)
      have hd2 : decide (0 ≤ (k : Int)) = true := decide_eq_true (by omega)
      have ca := wrow_cell rA (j := k) (by rw [HLA.out]; omega)
      have cb := wrow_cell rB (j := k) (by rw [HLB.out]; omega)
      have k0 : 0 ≤ (k : Int) := by omega
      have k1 : (k : Int) < 14 := by omega
      have e1 : RT.above a b (k + 1) = if a.getD k 0 ≠ b.getD k 0 then decide (a.getD k 0 > b.getD k 0) else RT.above a b k := rfl
      obtain ⟨x, hx⟩ : ∃ x, a.getD k 0 = x := ⟨_, rfl⟩
      obtain ⟨y, hy⟩ : ∃ y, b.getD k 0 = y := ⟨_, rfl⟩
      rw [hx, hy] at e1
      rw [hx] at ca
      rw [hy] at cb
      by_cases hxy : x = y
      · subst hxy
        rw [if_neg (fun h => h rfl)] at e1
        have E1 := hid e1
        have hne : (UW x != UW x) = false := by simp
        clear rA rB rE rb e1 hx hy hk1
        go_wp2_with fail
        go_quiet (fail)
        go_wp2_with fail
        exact ⟨⟨k, by omega, by first | rfl | (congr 1; omega), RA.out, RB.out, by rw [RE.out, E1.out], BE.out.trans (Dr.below ⟨_, rfl⟩)⟩, by simp [intOf]⟩
      · rw [if_pos hxy] at e1
        have E1 := hid e1
        have hne : (UW x != UW y) = true := by
          rw [bne_iff_ne]; intro h; apply hxy; unfold UW at h; exact UInt64.toNat_inj.1 (by omega)
        have hgt : decide (UW x > UW y) = decide (x > y) := by
          rw [decide_eq_decide]; unfold UW; rw [gt_iff_lt, gt_iff_lt, UInt64.lt_iff_toNat_lt]; omega
        have hgt2 : decide (UW y < UW x) = decide (x > y) := hgt
        clear rA rB rE rb e1 hx hy hk1
        go_wp2_with fail
        go_quiet (fail)
        go_wp2_with fail
        go_quiet (fail)
        go_wp2_with fail
        go_ret
        exact ⟨by rw [RE.out, E1.out]; rfl, (BE.out.trans (Dr.below ⟨_, rfl⟩)).trans (Dr.below ⟨_, rfl⟩)⟩

end Go.Proofs.YtjfjbanoikbnoaaDoor
