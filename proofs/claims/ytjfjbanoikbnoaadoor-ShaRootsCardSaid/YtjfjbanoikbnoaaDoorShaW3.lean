/- The walk of the document's block. -/
import Derived.Test.YtjfjbanoikbnoaaDoorShaW2
namespace Go.Proofs.YtjfjbanoikbnoaaDoor
open Go.RowKit

@[go_sem] theorem u_push (x : UInt64) (c : UInt8) : bits .or .u64 (IntKind.u64.wrap (UW x * (256 : Int))) (c.toNat : Int) = UW ((x <<< 8) ||| c.toUInt64) := by
  have h := u_shl x 8 (by decide)
  rw [show ((2 : Int) ^ 8) = 256 from rfl] at h
  rw [h, show (c.toNat : Int) = UW c.toUInt64 by unfold UW; rw [UInt8.toNat_toUInt64], u_or]
  rfl
@[go_sem] theorem u_push' (x : UInt64) (c : UInt8) : bits .or .u64 (IntKind.u64.wrap (UW x * (256 : Int))) (IntKind.u64.wrap (c.toNat : Int)) = UW ((x <<< 8) ||| c.toUInt64) := by
  rw [show IntKind.u64.wrap (c.toNat : Int) = (c.toNat : Int) from IntWalk.u64_in _ (by have := c.toNat_lt; omega), u_push]
theorem store80 (l : List UInt64) (hl : l.length = 80) (w : World) : (storeCells ⟨w.heap.size, 0, none⟩ (wrow l).toList).run Tryd.prog (w.alloc (.cells (wrow [0, 0, 0, 0, 0, 0, 0, 0, 0, 0, 0, 0, 0, 0, 0, 0, 0, 0, 0, 0, 0, 0, 0, 0, 0, 0, 0, 0, 0, 0, 0, 0, 0, 0, 0, 0, 0, 0, 0, 0, 0, 0, 0, 0, 0, 0, 0, 0, 0, 0, 0, 0, 0, 0, 0, 0, 0, 0, 0, 0, 0, 0, 0, 0, 0, 0, 0, 0, 0, 0, 0, 0, 0, 0, 0, 0, 0, 0, 0, 0]) 29)) = .ok () (w.alloc (.cells (wrow l) 29)) :=
  store_cells_new w 29 _ (wrow l) (by rw [info_A80, wrow_size, hl]) (by rw [wrow_size, wrow_size, hl]; rfl) (wrow_one l)

set_option maxRecDepth 100000 in
set_option maxHeartbeats 4000000 in
theorem rblock_any (h : SH.St) (bl : List UInt8) (bw off cap : Nat) (W : World) (hb : bl.length = 128) (hcap : 128 ≤ cap)
    (hc : ∀ j, j < 128 → W.cell? ⟨bw, off + j, none⟩ = some (.int .u8 ((bl.getD j 0).toNat : Int))) :
    Calls Tryd.prog 15 #[.agg (stv h), .slice (some ⟨bw, off, none⟩) 128 cap] W fun e w' => e = .returned (.agg (stv (SH.block h bl))) ∧ Below W.heap.size W w' := by
  have hbw : bw < W.heap.size := World.block_lt_of_cell? W _ (hc 0 (by decide))
  have hsz : (stv h).size = 8 := rfl
  have HC := hid hc
  have HB := hid hb
  clear hc hb
  go_enter Tryd.func15, Tryd.ntmps15
  go_wp2_with fail
  clear hsz
  obtain ⟨N, hN⟩ : ∃ N, N = W.heap.size := ⟨_, rfl⟩
  rw [← hN]
  have HN := hid hN
  have bwN : bw < N := by omega
  go_loopw [6] (fun i wr => ∃ k : Nat, k ≤ 128 ∧ i = .int .i64 (k : Int) ∧ wr.heap[N]? = some (.cells (stv h) 32 (0, 0)) ∧ wr.heap[N + 1]? = some (.cells (wrow (List.replicate 8 0)) 32 (0, 0)) ∧
    wr.heap[N + 1 + 1]? = some (.cells (wrow (ld bl k)) 29 (0, 0)) ∧ Below W.heap.size W wr) (fun i _ => (128 - intOf i).toNat)
  case atStart =>
    refine ⟨0, by omega, rfl, alloc_old (alloc_old (alloc_at' hN _)), alloc_old (alloc_at' (by simp [hN]) _), ?_, below_alloc (below_alloc (below_new _) _) _⟩
    rw [ld_zero]
    exact alloc_at' (by simp [hN]) _
  case round =>
    clear hN
    obtain ⟨k, hk, rfl, rH, rZ, rW, rb⟩ := hrel
    have RH := hid rH
    have RZ := hid rZ
    have RW := hid rW
    have RB := hid rb
    by_cases hlt : k < 128
    · have cb := ((rb.cell (p := ⟨bw, off + k, none⟩) hbw).trans (HC.out k hlt))
      have cw := wrow_cell rW (j := k / 8) (by rw [ld_length]; omega)
      have hf := free_at rW
      have hi0 : 0 ≤ (k : Int) := by omega
      have hi1 : (k : Int) < 128 := by omega
      have hi3 : 0 ≤ (k : Int) / 8 := by omega
      have hi4 : (k : Int) / 8 < 80 := by omega
      have hi5 : ((k : Int) / 8).toNat = k / 8 := by omega
      have hst := ld_step bl k (by have := HB.out; omega) hlt
      generalize hx : (ld bl k).getD (k / 8) 0 = x at *
      generalize bl.getD k 0 = c at *
      have HST := hid hst
      clear rH rZ rW rb hx hst
      go_wp2_with fail
      refine still_tail 14 (by kernel_rfl) (by kernel_rfl) ?_
      simp only [List.take_succ_cons, List.take_zero, List.drop_succ_cons, List.drop_zero]
      repeat (first | (refine wpStill_step (fun K hK => ?_); go_simp; refine hK _ ?_; clear hK K; try go_ints))
      refine wpStill_nil ?_
      go_wp2_with fail
      refine ⟨⟨k + 1, by omega, by go_num, at_setCell_other RH.out (by show N ≠ N + 1 + 1; omega) _, at_setCell_other RZ.out (by show N + 1 ≠ N + 1 + 1; omega) _, ?_, (RB.out.setCell (by have := HN.out; simp; omega) _).drew⟩, by simp [intOf]; omega⟩
      rw [HST.out]
      exact wrow_store RW.out _ _
    · have hk5 : k = 128 := by omega
      have hd : decide ((k : Int) < 128) = false := decide_eq_false (by omega)
      rw [hk5, ld_end bl HB.out] at rW
      have RW2 := hid rW
      have hwl : (SH.words bl 16).length = 16 := words_length bl 16
      have hW0 : SH.words bl 16 ++ List.replicate 64 0 = gr (SH.words bl 16) 0 := rfl
      rw [hW0] at RW2
      clear rH rZ rW rb RW hW0 hk5
      generalize hW16 : SH.words bl 16 = W16 at *
      have HW16 := hid hW16
      clear hW16
      go_wp2_with fail
      clear hd hlt hk
      go_loopw [7] (fun i wq => ∃ n : Nat, n ≤ 64 ∧ i = .int .i64 ((16 + n : Nat) : Int) ∧ wq.heap[N]? = some (.cells (stv h) 32 (0, 0)) ∧ wq.heap[N + 1]? = some (.cells (wrow (List.replicate 8 0)) 32 (0, 0)) ∧
        wq.heap[N + 1 + 1]? = some (.cells (wrow (gr W16 n)) 29 (0, 0)) ∧ Below W.heap.size W wq) (fun i _ => (80 - intOf i).toNat)
      case atStart => exact ⟨0, by omega, rfl, RH.out, RZ.out, RW2.out, RB.out⟩
      case round =>
        clear RH RZ RW2 RB
        obtain ⟨n, hn, rfl, rH, rZ, rW, rb⟩ := hrel
        have RH := hid rH
        have RZ := hid rZ
        have RW := hid rW
        have RB := hid rb
        obtain ⟨i, hi⟩ : ∃ i, 16 + n = i := ⟨_, rfl⟩
        rw [hi]
        have HI := hid hi
        have HWL := hid hwl
        by_cases hlt : i < 80
        · have hd : decide ((i : Int) < 80) = true := decide_eq_true (by omega)
          have hlen := gr_length hwl hn
          have hst := gr_step hwl (n := n) (i := i) (by omega) (by omega)
          have hi16 : 16 ≤ i := by omega
          have hi0 : 0 ≤ (i : Int) := by omega
          have hi1 : (i : Int) < 80 := by omega
          have hf := free_at rW
          have hcw := wrow_cell rW (j := i) (by omega)
          obtain ⟨v, hv⟩ : ∃ v, wordOf ((gr W16 n).getD (i - 16) 0) ((gr W16 n).getD (i - 15) 0) ((gr W16 n).getD (i - 7) 0) ((gr W16 n).getD (i - 2) 0) = v := ⟨_, rfl⟩
          have hcall := fun w => rword_any (gr W16 n) i w hlen hi16 hlt
          rw [hv] at hst hcall
          have HCALL := hid hcall
          have HST := hid hst
          have HLEN := hid hlen
          clear hv hcall
          clear rH rZ rW rb hi hst hlen hwl
          go_upto_region 9 with (fail)
          refine wp_region_list ?_
          go_wp2_with fail
          refine opwp_load_row _ _ (by rfl) (by rfl) RW.out Tryd.underlying29 rfl (by rw [info_A80, wrow_size, HLEN.out]) ?_
          rename_i hK
          refine hK _ _ ?_
          go_wp2_with fail
          refine (HCALL.out _).mono ?_
          rintro e w2 ⟨rfl, hb2⟩
          have H2 := hid (keepB hb2 RH.out)
          have Z2 := hid (keepB hb2 RZ.out)
          have W2 := keepB hb2 RW.out
          have B2 := hid (below_to RB.out hb2)
          have cw := wrow_cell W2 (j := i) (by rw [HLEN.out]; exact hlt)
          have hf := free_at W2
          have W2' := hid W2
          clear W2 hb2 hcw RH RZ RW RB
          go_wp2_with fail
          refine ⟨⟨n + 1, by have := HI.out; omega, by rw [← HI.out]; go_num, at_setCell_other H2.out (by show N ≠ N + 1 + 1; omega) _, at_setCell_other Z2.out (by show N + 1 ≠ N + 1 + 1; omega) _, ?_, (B2.out.setCell (by have := HN.out; simp; omega) _)⟩, by simp [intOf]; omega⟩
          rw [← HST.out]
          exact wrow_store W2'.out _ _
        · have hd : decide ((i : Int) < 80) = false := decide_eq_false (by omega)
          have hn5 : n = 64 := by omega
          rw [hn5] at rW
          have hg : gr W16 64 = SH.ext 64 W16 := by unfold gr; simp
          rw [hg] at rW
          have RW2 := hid rW
          have hwl2 : (SH.ext 64 W16).length = 80 := by rw [SH.ext_length, hwl]
          have hk80 := store80 SH.K rfl
          have hsk : (wrow SH.K).size = 80 := rfl
          clear rH rZ rW rb RW hg hn5 hi hwl
          generalize hWLe : SH.ext 64 W16 = WL at *
          have HWLE := hid hWLe
          clear hWLe
          go_wp2_with fail
          refine (rrounds_any _).mono ?_
          rintro e w2 ⟨rfl, hb2⟩
          have H2 := keepB hb2 RH.out
          have Z2 := hid (keepB hb2 RZ.out)
          have W2 := hid (keepB hb2 RW2.out)
          have B2 := hid (below_to RB.out hb2)
          obtain ⟨c0, c1, c2, c3, c4, c5, c6, c7⟩ := oct_cells H2
          have H2' := hid H2
          clear H2 hb2 RH RZ RW2 RB
          go_wp2_with fail
          obtain ⟨M, hM⟩ : ∃ M, w2.heap.size = M := ⟨_, rfl⟩
          have hMN : N + 1 + 1 < M := by rw [← hM]; exact lt_blk W2.out
          have hxx : #[.int .u64 (UW h.a), .int .u64 (UW h.b), .int .u64 (UW h.c), .int .u64 (UW h.d), .int .u64 (UW h.e), .int .u64 (UW h.f), .int .u64 (UW h.g), .int .u64 (UW h.h)] = stv (SH.rounds WL h 0) := rfl
          rw [hxx, hM]
          clear c0 c1 c2 c3 c4 c5 c6 c7 hk80 hsk hxx
          have hNM : N ≤ M := by omega
          have hWM : W.heap.size ≤ M := by have := HN.out; omega
          go_loopw [10] (fun i wq => ∃ n : Nat, n ≤ 80 ∧ i = .int .i64 (n : Int) ∧ wq.heap[N]? = some (.cells (stv h) 32 (0, 0)) ∧ wq.heap[N + 1]? = some (.cells (wrow (List.replicate 8 0)) 32 (0, 0)) ∧
            wq.heap[N + 1 + 1]? = some (.cells (wrow WL) 29 (0, 0)) ∧ wq.heap[M]? = some (.cells (wrow SH.K) 29 (0, 0)) ∧ wq.heap[M + 1]? = some (.cells (stv (SH.rounds WL h n)) 32 (0, 0)) ∧ Below W.heap.size W wq) (fun i _ => (80 - intOf i).toNat)
          case atStart =>
            exact ⟨0, by omega, rfl, alloc_old (alloc_old H2'.out), alloc_old (alloc_old Z2.out), alloc_old (alloc_old W2.out), alloc_old (alloc_at' hM.symm _), alloc_at' (by simp [hM]) _, below_alloc (below_alloc B2.out _) _⟩
          case round =>
            clear hM H2' Z2 W2 B2
            obtain ⟨n, hn, rfl, rH, rZ, rW, rK, rX, rb⟩ := hrel
            have RH := hid rH
            have RZ := hid rZ
            have RW := hid rW
            have RK := hid rK
            have RB := hid rb
            have HWL2 := hid hwl2
            by_cases hlt : n < 80
            · have hd : decide ((n : Int) < 80) = true := decide_eq_true (by omega)
              have hi0 : 0 ≤ (n : Int) := by omega
              have hi1 : (n : Int) < 80 := by omega
              have ck := wrow_cell rK (j := n) hlt
              have cw := wrow_cell rW (j := n) (by rw [hwl2]; exact hlt)
              have hrr : SH.rounds WL h (n + 1) = SH.round (SH.rounds WL h n) (SH.K.getD n 0) (WL.getD n 0) := rfl
              generalize SH.K.getD n 0 = kk at *
              generalize WL.getD n 0 = ww at *
              generalize hx : SH.rounds WL h n = x at *
              obtain ⟨xa, xb, xc, xd, xe, xf, xg, xh⟩ := x
              obtain ⟨c0, c1, c2, c3, c4, c5, c6, c7⟩ := oct_cells rX
              have hf := free_at rX
              have RX := hid rX
              have HRR := hid hrr
              have r14 := hid (fun w => right_lit xe 14 14 rfl (by decide) (by decide) w)
              have r18 := hid (fun w => right_lit xe 18 18 rfl (by decide) (by decide) w)
              have r41 := hid (fun w => right_lit xe 41 41 rfl (by decide) (by decide) w)
              have r28 := hid (fun w => right_lit xa 28 28 rfl (by decide) (by decide) w)
              have r34 := hid (fun w => right_lit xa 34 34 rfl (by decide) (by decide) w)
              have r39 := hid (fun w => right_lit xa 39 39 rfl (by decide) (by decide) w)
              clear rH rZ rW rK rX rb hx hrr hwl2
              go_wp2_with fail
              go_quiet ((first | (go_at_call 21; with_reducible exact Calls.quiet_of_same (r14.out _)) | (go_at_call 21; with_reducible exact Calls.quiet_of_same (r18.out _)) | (go_at_call 21; with_reducible exact Calls.quiet_of_same (r41.out _))))
              have H3 : (wr.drewN nq).heap[N]? = some (.cells (stv h) 32 (0, 0)) := RH.out
              have Z3 : (wr.drewN nq).heap[N + 1]? = some (.cells (wrow (List.replicate 8 0)) 32 (0, 0)) := RZ.out
              have W3 : (wr.drewN nq).heap[N + 1 + 1]? = some (.cells (wrow WL) 29 (0, 0)) := RW.out
              have K3 : (wr.drewN nq).heap[M]? = some (.cells (wrow SH.K) 29 (0, 0)) := RK.out
              have X3 : (wr.drewN nq).heap[M + 1]? = some (.cells (stv ⟨xa, xb, xc, xd, xe, xf, xg, xh⟩) 32 (0, 0)) := RX.out
              have B3 : Below W.heap.size W (wr.drewN nq) := RB.out.trans (Dr.below ⟨_, rfl⟩)
              generalize wr.drewN nq = w3 at *
              clear RH RZ RW RK RB RX c0 c1 c2 c3 c4 c5 c6 c7 hf ck cw
              obtain ⟨c0, c1, c2, c3, c4, c5, c6, c7⟩ := oct_cells X3
              have hf := free_at X3
              have RH := hid H3
              have RZ := hid Z3
              have RW := hid W3
              have RK := hid K3
              have RX := hid X3
              have RB := hid B3
              clear H3 Z3 W3 K3 X3 B3
              go_wp2_with fail
              go_quiet ((first | (go_at_call 21; with_reducible exact Calls.quiet_of_same (r28.out _)) | (go_at_call 21; with_reducible exact Calls.quiet_of_same (r34.out _)) | (go_at_call 21; with_reducible exact Calls.quiet_of_same (r39.out _))))
              go_wp2_with fail
              have E := set8 RX.out (xh + (SH.ror 14 xe ^^^ SH.ror 18 xe ^^^ SH.ror 41 xe) + (xg ^^^ xe &&& (xf ^^^ xg)) + kk + ww + ((SH.ror 28 xa ^^^ SH.ror 34 xa ^^^ SH.ror 39 xa) + (xa &&& xb ||| xc &&& (xa ||| xb)))) xa xb xc
                (xd + (xh + (SH.ror 14 xe ^^^ SH.ror 18 xe ^^^ SH.ror 41 xe) + (xg ^^^ xe &&& (xf ^^^ xg)) + kk + ww)) xe xf xg
              rw [E]
              have l3 := lt_blk RX.out
              refine ⟨⟨n + 1, by omega, by go_num, (blk_other N (by omega)).trans RH.out, (blk_other (N + 1) (by omega)).trans RZ.out, (blk_other (N + 1 + 1) (by omega)).trans RW.out, (blk_other M (by omega)).trans RK.out, ?_, (below_blk' RB.out (by omega) _).trans (Dr.below ⟨_, rfl⟩)⟩, by simp [intOf]; omega⟩
              rw [HRR.out]
              exact blk_heap l3
            · have hd : decide ((n : Int) < 80) = false := decide_eq_false (by omega)
              have hn5 : n = 80 := by omega
              have hxx := rX
              rw [hn5] at hxx
              obtain ⟨x, hx⟩ : ∃ x, SH.rounds WL h 80 = x := ⟨_, rfl⟩
              rw [hx] at hxx
              have RX := hid hxx
              have HX := hid hx
              clear rH rZ rW rK rX rb hxx hx hn5
              go_wp2_with fail
              clear hd hn hlt
              go_loopw [13] (fun i wq => ∃ n : Nat, n ≤ 8 ∧ i = .int .i64 (n : Int) ∧ wq.heap[N]? = some (.cells (wrow ((stl (SH.plus h x)).take n ++ (stl h).drop n)) 32 (0, 0)) ∧ wq.heap[N + 1]? = some (.cells (wrow (List.replicate 8 0)) 32 (0, 0)) ∧
                wq.heap[M + 1]? = some (.cells (wrow (stl x)) 32 (0, 0)) ∧ Below W.heap.size W wq) (fun i _ => (8 - intOf i).toNat)
              case atStart => exact ⟨0, by omega, rfl, RH.out, RZ.out, RX.out, RB.out⟩
              case round =>
                clear RH RZ RW RK RX RB
                obtain ⟨n, hn, rfl, rH, rZ, rX, rb⟩ := hrel
                have RH := hid rH
                have RZ := hid rZ
                have RX := hid rX
                have RB := hid rb
                by_cases hlt : n < 8
                · have hd : decide ((n : Int) < 8) = true := decide_eq_true (by omega)
                  have hi0 : 0 ≤ (n : Int) := by omega
                  have hi1 : (n : Int) < 8 := by omega
                  have hl1 : (stl (SH.plus h x)).length = (stl h).length := rfl
                  have c1 := wrow_cell rH (j := n) (by rw [put_len hl1]; exact hlt)
                  rw [put_get hl1 (by exact hlt)] at c1
                  have c2 := wrow_cell rX (j := n) (by exact hlt)
                  have hf := free_at rH
                  have hs := put_step hl1 (i := n) (by exact hlt)
                  rw [← stl_plus, zip_get (by exact hlt) (by exact hlt), stl_plus] at hs
                  generalize (stl h).getD n 0 = p at *
                  generalize (stl x).getD n 0 = q at *
                  have HSS := hid hs
                  clear rH rZ rX rb hl1 hs
                  go_wp2_with fail
                  refine still_tail 9 (by kernel_rfl) (by kernel_rfl) ?_
                  simp only [List.take_succ_cons, List.take_zero, List.drop_succ_cons, List.drop_zero]
                  repeat (first | (refine wpStill_step (fun K hK => ?_); go_simp; refine hK _ ?_; clear hK K; try go_ints))
                  refine wpStill_nil ?_
                  go_wp2_with fail
                  refine ⟨⟨n + 1, by omega, by go_num, ?_, at_setCell_other RZ.out (by show N + 1 ≠ N; omega) _, at_setCell_other RX.out (by show M + 1 ≠ N; omega) _, (RB.out.setCell (by have := HN.out; simp; omega) _).drew⟩, by simp [intOf]; omega⟩
                  rw [← HSS.out]
                  exact wrow_store RH.out _ _
                · have hd : decide ((n : Int) < 8) = false := decide_eq_false (by omega)
                  have hn5 : n = 8 := by omega
                  rw [hn5] at rH
                  have hp : (stl (SH.plus h x)).take 8 ++ (stl h).drop 8 = stl (SH.plus h x) := rfl
                  rw [hp] at rH
                  obtain ⟨c0, c1, c2, c3, c4, c5, c6, c7⟩ := oct_cells rH
                  obtain ⟨z0, z1, z2, z3, z4, z5, z6, z7⟩ := oct_cells rZ
                  have hf := free_at rZ
                  have hblk : SH.plus h x = SH.block h bl := by
                    unfold SH.block
                    rw [HW16.out, HWLE.out, HX.out]
                  clear rH rX rb hp
                  go_wp2_with fail
                  rw [set8 RZ.out]
                  have RN := hid (blk_heap (o := .cells (stv (SH.block h bl)) 32 (0, 0)) (lt_blk RZ.out))
                  exact bodyPost_ret (v := .agg (stv (SH.block h bl))) (results_cell_row Tryd.results15 _ _ (N + 1) _ _ _ _ (by rfl) RN.out Tryd.underlying32 rfl (by rw [info_A8]; rfl)) rfl ⟨rfl, below_blk' RB.out (by have := HN.out; omega) _⟩

end Go.Proofs.YtjfjbanoikbnoaaDoor
