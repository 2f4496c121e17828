/- The walk of the document's block (SHA-256). -/
import Derived.Test.YtejkimhmpnogkaaDoorSumW2
namespace Go.Proofs.YtejkimhmpnogkaaDoor
open Go.RowKit

@[go_sem] theorem v_push (x : UInt32) (c : UInt8) : bits .or .u32 (UV x * (256 : Int) % 4294967296) (c.toNat : Int) = UV ((x <<< 8) ||| c.toUInt32) := by
  have h := v_shl' x 8 (by decide)
  rw [show ((2 : Int) ^ 8) = 256 from rfl] at h
  rw [h, show (c.toNat : Int) = UV c.toUInt32 by unfold UV; rw [UInt8.toNat_toUInt32], v_or]
  rfl
@[go_sem] theorem v_push' (x : UInt32) (c : UInt8) : bits .or .u32 (UV x * (256 : Int) % 4294967296) ((c.toNat : Int) % 4294967296) = UV ((x <<< 8) ||| c.toUInt32) := by
  rw [show (c.toNat : Int) % 4294967296 = (c.toNat : Int) by have := c.toNat_lt; omega, v_push]
@[go_sem] theorem v_push'' (x : UInt32) (c : UInt8) : bits .or .u32 (IntKind.u32.wrap (UV x * (256 : Int))) (c.toNat : Int) = UV ((x <<< 8) ||| c.toUInt32) := by
  rw [IntKind.wrap_u32', v_push]
@[go_sem] theorem v_shr3 (x : UInt32) : UV x / (8 : Int) = UV (x >>> 3) := v_shr x 3 (by decide)
@[go_sem] theorem v_shr10 (x : UInt32) : UV x / (1024 : Int) = UV (x >>> 10) := v_shr x 10 (by decide)

set_option maxRecDepth 100000 in
set_option maxHeartbeats 4000000 in
theorem rblock_any (h : SM.St) (bl : List UInt8) (bw off cap : Nat) (W : World) (hb : bl.length = 64) (_hcap : 64 ≤ cap)
    (hc : ∀ j, j < 64 → W.cell? ⟨bw, off + j, none⟩ = some (.int .u8 ((bl.getD j 0).toNat : Int))) :
    Calls Tryd.prog 39 #[.agg (mstv h), .slice (some ⟨bw, off, none⟩) 64 cap] W fun e w' => e = .returned (.agg (mstv (SM.block h bl))) ∧ Below W.heap.size W w' := by
  have hbw : bw < W.heap.size := World.block_lt_of_cell? W _ (hc 0 (by decide))
  have hsz : (mstv h).size = 8 := rfl
  have HC := hid hc
  have HB := hid hb
  clear hc hb
  go_enter Tryd.func39, Tryd.ntmps39
  go_wp2_with fail
  clear hsz
  obtain ⟨N, hN⟩ : ∃ N, N = W.heap.size := ⟨_, rfl⟩
  rw [← hN]
  have HN := hid hN
  have bwN : bw < N := by omega
  go_loopw [6] (fun i wr => ∃ k : Nat, k ≤ 64 ∧ i = .int .i64 (k : Int) ∧ wr.heap[N]? = some (.cells (mstv h) 59 (0, 0)) ∧ wr.heap[N + 1]? = some (.cells (vrow (List.replicate 8 0)) 59 (0, 0)) ∧
    wr.heap[N + 1 + 1]? = some (.cells (vrow (mld bl k)) 93 (0, 0)) ∧ Below W.heap.size W wr) (fun i _ => (64 - intOf i).toNat)
  case atStart =>
    refine ⟨0, by omega, rfl, alloc_old (alloc_old (alloc_at' hN _)), alloc_old (alloc_at' (by simp [hN]) _), ?_, below_alloc (below_alloc (below_new _) _) _⟩
    rw [mld_zero]
    exact alloc_at' (by simp [hN]) _
  case round =>
    clear hN
    obtain ⟨k, hk, rfl, rH, rZ, rW, rb⟩ := hrel
    have RH := hid rH
    have RZ := hid rZ
    have RW := hid rW
    have RB := hid rb
    by_cases hlt : k < 64
    · have cb := ((rb.cell (p := ⟨bw, off + k, none⟩) hbw).trans (HC.out k hlt))
      have cw := vrow_cell rW (j := k / 4) (by rw [mld_length]; omega)
      have hf := free_at rW
      have hi0 : 0 ≤ (k : Int) := by omega
      have hi1 : (k : Int) < 64 := by omega
      have hi3 : 0 ≤ (k : Int) / 4 := by omega
      have hi4 : (k : Int) / 4 < 64 := by omega
      have hi5 : ((k : Int) / 4).toNat = k / 4 := by omega
      have hst := mld_step bl k (by have := HB.out; omega) hlt
      generalize hx : (mld bl k).getD (k / 4) 0 = x at *
      generalize bl.getD k 0 = c at *
      have HST := hid hst
      clear rH rZ rW rb hx hst
      go_wp2_with fail
      refine still_tail 14 (by kernel_rfl) (by kernel_rfl) ?_
      simp only [List.take_succ_cons, List.take_zero, List.drop_succ_cons, List.drop_zero]
      repeat (first | (refine wpStill_step (fun K hK => ?_); go_simp; refine hK _ ?_; clear hK K; try go_ints))
      refine wpStill_nil ?_
      go_wp2_with fail
      refine ⟨⟨k + 1, by omega, by go_num, at_setCell_other RH.out (by show N ≠ N + 1 + 1; omega) _, at_setCell_other RZ.out (by show N + 1 ≠ N + 1 + 1; omega) _, ?_, (RB.out.setCell (by have := HN.out; simp; omega) _).drew⟩, by simp [intOf]; omega⟩
      rw [HST.out]
      exact vrow_store RW.out _ _
    · have hk5 : k = 64 := by omega
      have hd : decide ((k : Int) < 64) = false := decide_eq_false (by omega)
      rw [hk5, mld_end bl HB.out] at rW
      have RW2 := hid rW
      have hwl : (SM.words bl 16).length = 16 := mwords_length bl 16
      have hW0 : SM.words bl 16 ++ List.replicate 48 0 = mgr (SM.words bl 16) 0 := rfl
      rw [hW0] at RW2
      clear rH rZ rW rb RW hW0 hk5
      generalize hW16 : SM.words bl 16 = W16 at *
      have HW16 := hid hW16
      clear hW16
      go_wp2_with fail
      clear hd hlt hk
      go_loopw [7] (fun i wq => ∃ n : Nat, n ≤ 48 ∧ i = .int .i64 ((16 + n : Nat) : Int) ∧ wq.heap[N]? = some (.cells (mstv h) 59 (0, 0)) ∧ wq.heap[N + 1]? = some (.cells (vrow (List.replicate 8 0)) 59 (0, 0)) ∧
        wq.heap[N + 1 + 1]? = some (.cells (vrow (mgr W16 n)) 93 (0, 0)) ∧ Below W.heap.size W wq) (fun i _ => (64 - intOf i).toNat)
      case atStart => exact ⟨0, by omega, rfl, RH.out, RZ.out, RW2.out, RB.out⟩
      case round =>
        clear RH RZ RW2 RB
        obtain ⟨n, hn, rfl, rH, rZ, rW, rb⟩ := hrel
        have RH := hid rH
        have RZ := hid rZ
        have RW := hid rW
        have RB := hid rb
        obtain ⟨i, hi⟩ : ∃ i, 16 + n = i := ⟨_, rfl⟩
        rw [hi]
        have HI := hid hi
        have HWL := hid hwl
        by_cases hlt : i < 64
        · have hd : decide ((i : Int) < 64) = true := decide_eq_true (by omega)
          have hlen := mgr_length hwl hn
          have hst := mgr_step hwl (n := n) (i := i) (by omega) (by omega)
          have hi16 : 16 ≤ i := by omega
          have hi0 : 0 ≤ (i : Int) := by omega
          have hi1 : (i : Int) < 64 := by omega
          have hf := free_at rW
          have hcw := vrow_cell rW (j := i) (by omega)
          have c1 := vrow_cell rW (j := i - 16) (by omega)
          have c2 := vrow_cell rW (j := i - 15) (by omega)
          have c3 := vrow_cell rW (j := i - 7) (by omega)
          have c4 := vrow_cell rW (j := i - 2) (by omega)
          have q1 : IntKind.i64.wrap ((i : Int) - 16) = ((i - 16 : Nat) : Int) := by rw [show (i : Int) - 16 = ((i - 16 : Nat) : Int) by omega]; exact IntWalk.i64_in _ (by omega)
          have q2 : (i : Int) - 15 = ((i - 15 : Nat) : Int) := by omega
          have q3 : IntKind.i64.wrap ((i : Int) - 7) = ((i - 7 : Nat) : Int) := by rw [show (i : Int) - 7 = ((i - 7 : Nat) : Int) by omega]; exact IntWalk.i64_in _ (by omega)
          have q4 : (i : Int) - 2 = ((i - 2 : Nat) : Int) := by omega
          generalize (mgr W16 n).getD (i - 16) 0 = a at *
          generalize (mgr W16 n).getD (i - 15) 0 = b at *
          generalize (mgr W16 n).getD (i - 7) 0 = c at *
          generalize (mgr W16 n).getD (i - 2) 0 = d at *
          have g1 : i - 16 < 64 := by omega
          have g2 : i - 15 < 64 := by omega
          have g3 : i - 7 < 64 := by omega
          have g4 : i - 2 < 64 := by omega
          generalize i - 16 = i1 at *
          generalize i - 15 = i2 at *
          generalize i - 7 = i3 at *
          generalize i - 2 = i4 at *
          have e1 : 0 ≤ (i1 : Int) := by omega
          have e3 : 0 ≤ (i3 : Int) := by omega
          have f1 : (i1 : Int) < 64 := by omega
          have f3 : (i3 : Int) < 64 := by omega
          have HST := hid hst
          have HLEN := hid hlen
          have r7 := hid (fun w => turn_lit b 7 7 rfl (by decide) (by decide) w)
          have r18 := hid (fun w => turn_lit b 18 18 rfl (by decide) (by decide) w)
          have r17 := hid (fun w => turn_lit d 17 17 rfl (by decide) (by decide) w)
          have r19 := hid (fun w => turn_lit d 19 19 rfl (by decide) (by decide) w)
          clear rH rZ rW rb hi hst hlen hwl
          go_wp2_with fail
          refine still_tail 29 (by kernel_rfl) (by kernel_rfl) ?_
          simp only [List.take_succ_cons, List.take_zero, List.drop_succ_cons, List.drop_zero]
          repeat (first | (refine wpStill_step (fun K hK => ?_); go_simp; refine hK _ ?_; clear hK K; try go_ints) | (refine wpStill_step (fun K hK => ?_); go_simp; (with_reducible refine ⟨_, r7.out _, hK _ ?_⟩); clear hK K; try go_ints) | (refine wpStill_step (fun K hK => ?_); go_simp; (with_reducible refine ⟨_, r18.out _, hK _ ?_⟩); clear hK K; try go_ints) | (refine wpStill_step (fun K hK => ?_); go_simp; (with_reducible refine ⟨_, r17.out _, hK _ ?_⟩); clear hK K; try go_ints) | (refine wpStill_step (fun K hK => ?_); go_simp; (with_reducible refine ⟨_, r19.out _, hK _ ?_⟩); clear hK K; try go_ints))
          refine wpStill_nil ?_
          go_wp2_with fail
          refine ⟨⟨n + 1, by have := HI.out; omega, by rw [← HI.out]; go_num, at_setCell_other RH.out (by show N ≠ N + 1 + 1; omega) _, at_setCell_other RZ.out (by show N + 1 ≠ N + 1 + 1; omega) _, ?_, (RB.out.setCell (by have := HN.out; simp; omega) _).drew⟩, by simp [intOf]; omega⟩
          rw [← HST.out]
          exact vrow_store RW.out _ _
        · have hd : decide ((i : Int) < 64) = false := decide_eq_false (by omega)
          have hn5 : n = 48 := by omega
          rw [hn5] at rW
          have hg : mgr W16 48 = SM.ext 48 W16 := by unfold mgr; simp
          rw [hg] at rW
          have RW2 := hid rW
          have hwl2 : (SM.ext 48 W16).length = 64 := by rw [SM.ext_length, hwl]
          clear rH rZ rW rb RW hg hn5 hi hwl
          generalize hWLe : SM.ext 48 W16 = WL at *
          have HWLE := hid hWLe
          clear hWLe
          have hsk : (wrow K5).size = 80 := rfl
          go_wp2_with fail
          refine (rrounds_any _).mono ?_
          rintro e w2 ⟨rfl, hb2⟩
          have H2 := keepB hb2 RH.out
          have Z2 := hid (keepB hb2 RZ.out)
          have W2 := hid (keepB hb2 RW2.out)
          have B2 := hid (below_to RB.out hb2)
          obtain ⟨c0, c1, c2, c3, c4, c5, c6, c7⟩ := oct_vcells H2
          have H2' := hid H2
          have hk80 := fun w => store_cells_new (P := Tryd.prog) w 95 (Tryd.zeroCells95) (wrow K5) (by rw [info_A80]; rfl) rfl (wrow_one _)
          clear H2 hb2 RH RZ RW2 RB
          go_wp2_with fail
          obtain ⟨M, hM⟩ : ∃ M, w2.heap.size = M := ⟨_, rfl⟩
          have hMN : N + 1 + 1 < M := by rw [← hM]; exact lt_blk W2.out
          have hxx : #[.int .u32 (UV h.a), .int .u32 (UV h.b), .int .u32 (UV h.c), .int .u32 (UV h.d), .int .u32 (UV h.e), .int .u32 (UV h.f), .int .u32 (UV h.g), .int .u32 (UV h.h)] = mstv (SM.rounds WL h 0) := rfl
          rw [hxx, hM]
          clear c0 c1 c2 c3 c4 c5 c6 c7 hk80 hsk hxx
          have hNM : N ≤ M := by omega
          have hWM : W.heap.size ≤ M := by have := HN.out; omega
          go_loopw [12] (fun i wq => ∃ n : Nat, n ≤ 64 ∧ i = .int .i64 (n : Int) ∧ wq.heap[N]? = some (.cells (mstv h) 59 (0, 0)) ∧ wq.heap[N + 1]? = some (.cells (vrow (List.replicate 8 0)) 59 (0, 0)) ∧
            wq.heap[N + 1 + 1]? = some (.cells (vrow WL) 93 (0, 0)) ∧ wq.heap[M]? = some (.cells (wrow K5) 95 (0, 0)) ∧ wq.heap[M + 1]? = some (.cells (mstv (SM.rounds WL h n)) 59 (0, 0)) ∧ Below W.heap.size W wq) (fun i _ => (64 - intOf i).toNat)
          case atStart =>
            exact ⟨0, by omega, rfl, alloc_old (alloc_old H2'.out), alloc_old (alloc_old Z2.out), alloc_old (alloc_old W2.out), alloc_old (alloc_at' hM.symm _), alloc_at' (by simp [hM]) _, below_alloc (below_alloc B2.out _) _⟩
          case round =>
            clear hM H2' Z2 W2 B2
            obtain ⟨n, hn, rfl, rH, rZ, rW, rK, rX, rb⟩ := hrel
            have RH := hid rH
            have RZ := hid rZ
            have RW := hid rW
            have RK := hid rK
            have RB := hid rb
            have HWL2 := hid hwl2
            by_cases hlt : n < 64
            · have hd : decide ((n : Int) < 64) = true := decide_eq_true (by omega)
              have hi0 : 0 ≤ (n : Int) := by omega
              have hi1 : (n : Int) < 64 := by omega
              have hi2 : (n : Int) < 80 := by omega
              have ck := wrow_cell rK (j := n) (by show n < 80; omega)
              have cw := vrow_cell rW (j := n) (by rw [hwl2]; exact hlt)
              have hrr : SM.rounds WL h (n + 1) = SM.round (SM.rounds WL h n) (SM.K.getD n 0) (WL.getD n 0) := rfl
              have hkk := half_K hlt
              generalize SM.K.getD n 0 = kk at *
              generalize K5.getD n 0 = k5 at *
              generalize WL.getD n 0 = ww at *
              generalize hx : SM.rounds WL h n = x at *
              obtain ⟨xa, xb, xc, xd, xe, xf, xg, xh⟩ := x
              obtain ⟨c0, c1, c2, c3, c4, c5, c6, c7⟩ := oct_vcells rX
              have hf := free_at rX
              have RX := hid rX
              have HRR := hid hrr
              have r6 := hid (fun w => turn_lit xe 6 6 rfl (by decide) (by decide) w)
              have r11 := hid (fun w => turn_lit xe 11 11 rfl (by decide) (by decide) w)
              have r25 := hid (fun w => turn_lit xe 25 25 rfl (by decide) (by decide) w)
              have r2 := hid (fun w => turn_lit xa 2 2 rfl (by decide) (by decide) w)
              have r13 := hid (fun w => turn_lit xa 13 13 rfl (by decide) (by decide) w)
              have r22 := hid (fun w => turn_lit xa 22 22 rfl (by decide) (by decide) w)
              clear rH rZ rW rK rX rb hx hrr hwl2
              go_wp2_with fail
              go_quiet ((first | (go_at_call 60; with_reducible exact Calls.quiet_of_same (r6.out _)) | (go_at_call 60; with_reducible exact Calls.quiet_of_same (r11.out _)) | (go_at_call 60; with_reducible exact Calls.quiet_of_same (r25.out _))))
              have H3 : (wr.drewN nq).heap[N]? = some (.cells (mstv h) 59 (0, 0)) := RH.out
              have Z3 : (wr.drewN nq).heap[N + 1]? = some (.cells (vrow (List.replicate 8 0)) 59 (0, 0)) := RZ.out
              have W3 : (wr.drewN nq).heap[N + 1 + 1]? = some (.cells (vrow WL) 93 (0, 0)) := RW.out
              have K3 : (wr.drewN nq).heap[M]? = some (.cells (wrow K5) 95 (0, 0)) := RK.out
              have X3 : (wr.drewN nq).heap[M + 1]? = some (.cells (mstv ⟨xa, xb, xc, xd, xe, xf, xg, xh⟩) 59 (0, 0)) := RX.out
              have B3 : Below W.heap.size W (wr.drewN nq) := RB.out.trans (Dr.below ⟨_, rfl⟩)
              generalize wr.drewN nq = w3 at *
              clear RH RZ RW RK RB RX c0 c1 c2 c3 c4 c5 c6 c7 hf ck cw
              obtain ⟨c0, c1, c2, c3, c4, c5, c6, c7⟩ := oct_vcells X3
              have hf := free_at X3
              have RH := hid H3
              have RZ := hid Z3
              have RW := hid W3
              have RK := hid K3
              have RX := hid X3
              have RB := hid B3
              clear H3 Z3 W3 K3 X3 B3
              go_wp2_with fail
              go_quiet ((first | (go_at_call 60; with_reducible exact Calls.quiet_of_same (r2.out _)) | (go_at_call 60; with_reducible exact Calls.quiet_of_same (r13.out _)) | (go_at_call 60; with_reducible exact Calls.quiet_of_same (r22.out _))))
              go_wp2_with fail
              have E := vset8 RX.out (xh + (SM.ror 6 xe ^^^ SM.ror 11 xe ^^^ SM.ror 25 xe) + (xg ^^^ xe &&& (xf ^^^ xg)) + kk + ww + ((SM.ror 2 xa ^^^ SM.ror 13 xa ^^^ SM.ror 22 xa) + (xa &&& xb ||| xc &&& (xa ||| xb)))) xa xb xc
                (xd + (xh + (SM.ror 6 xe ^^^ SM.ror 11 xe ^^^ SM.ror 25 xe) + (xg ^^^ xe &&& (xf ^^^ xg)) + kk + ww)) xe xf xg
              rw [E]
              have l3 := lt_blk RX.out
              refine ⟨⟨n + 1, by omega, by go_num, (blk_other N (by omega)).trans RH.out, (blk_other (N + 1) (by omega)).trans RZ.out, (blk_other (N + 1 + 1) (by omega)).trans RW.out, (blk_other M (by omega)).trans RK.out, ?_, (below_blk' RB.out (by omega) _).trans (Dr.below ⟨_, rfl⟩)⟩, by simp [intOf]; omega⟩
              rw [HRR.out]
              exact blk_heap l3
            · have hd : decide ((n : Int) < 64) = false := decide_eq_false (by omega)
              have hn5 : n = 64 := by omega
              have hxx := rX
              rw [hn5] at hxx
              obtain ⟨x, hx⟩ : ∃ x, SM.rounds WL h 64 = x := ⟨_, rfl⟩
              rw [hx] at hxx
              have RX := hid hxx
              have HX := hid hx
              clear rH rZ rW rK rX rb hxx hx hn5
              go_wp2_with fail
              clear hd hn hlt
              go_loopw [15] (fun i wq => ∃ n : Nat, n ≤ 8 ∧ i = .int .i64 (n : Int) ∧ wq.heap[N]? = some (.cells (vrow ((mstl (SM.plus h x)).take n ++ (mstl h).drop n)) 59 (0, 0)) ∧ wq.heap[N + 1]? = some (.cells (vrow (List.replicate 8 0)) 59 (0, 0)) ∧
                wq.heap[M + 1]? = some (.cells (vrow (mstl x)) 59 (0, 0)) ∧ Below W.heap.size W wq) (fun i _ => (8 - intOf i).toNat)
              case atStart => exact ⟨0, by omega, rfl, RH.out, RZ.out, RX.out, RB.out⟩
              case round =>
                clear RH RZ RW RK RX RB
                obtain ⟨n, hn, rfl, rH, rZ, rX, rb⟩ := hrel
                have RH := hid rH
                have RZ := hid rZ
                have RX := hid rX
                have RB := hid rb
                by_cases hlt : n < 8
                · have hd : decide ((n : Int) < 8) = true := decide_eq_true (by omega)
                  have hi0 : 0 ≤ (n : Int) := by omega
                  have hi1 : (n : Int) < 8 := by omega
                  have hl1 : (mstl (SM.plus h x)).length = (mstl h).length := rfl
                  have c1 := vrow_cell rH (j := n) (by rw [mput_len hl1]; exact hlt)
                  rw [mput_get hl1 (by exact hlt)] at c1
                  have c2 := vrow_cell rX (j := n) (by exact hlt)
                  have hf := free_at rH
                  have hs := mput_step hl1 (i := n) (by exact hlt)
                  rw [← mstl_plus, mzip_get (by exact hlt) (by exact hlt), mstl_plus] at hs
                  generalize (mstl h).getD n 0 = p at *
                  generalize (mstl x).getD n 0 = q at *
                  have HSS := hid hs
                  clear rH rZ rX rb hl1 hs
                  go_wp2_with fail
                  refine still_tail 9 (by kernel_rfl) (by kernel_rfl) ?_
                  simp only [List.take_succ_cons, List.take_zero, List.drop_succ_cons, List.drop_zero]
                  repeat (first | (refine wpStill_step (fun K hK => ?_); go_simp; refine hK _ ?_; clear hK K; try go_ints))
                  refine wpStill_nil ?_
                  go_wp2_with fail
                  refine ⟨⟨n + 1, by omega, by go_num, ?_, at_setCell_other RZ.out (by show N + 1 ≠ N; omega) _, at_setCell_other RX.out (by show M + 1 ≠ N; omega) _, (RB.out.setCell (by have := HN.out; simp; omega) _).drew⟩, by simp [intOf]; omega⟩
                  rw [← HSS.out]
                  exact vrow_store RH.out _ _
                · have hd : decide ((n : Int) < 8) = false := decide_eq_false (by omega)
                  have hn5 : n = 8 := by omega
                  rw [hn5] at rH
                  have hp : (mstl (SM.plus h x)).take 8 ++ (mstl h).drop 8 = mstl (SM.plus h x) := rfl
                  rw [hp] at rH
                  obtain ⟨c0, c1, c2, c3, c4, c5, c6, c7⟩ := oct_vcells rH
                  obtain ⟨z0, z1, z2, z3, z4, z5, z6, z7⟩ := oct_vcells rZ
                  have hf := free_at rZ
                  have hblk : SM.plus h x = SM.block h bl := by
                    unfold SM.block
                    rw [HW16.out, HWLE.out, HX.out]
                  clear rH rX rb hp
                  go_wp2_with fail
                  rw [vset8 RZ.out]
                  have RN := hid (blk_heap (o := .cells (mstv (SM.block h bl)) 59 (0, 0)) (lt_blk RZ.out))
                  exact bodyPost_ret (v := .agg (mstv (SM.block h bl))) (results_cell_row Tryd.results39 _ _ (N + 1) _ _ _ _ (by rfl) RN.out Tryd.underlying59 rfl (by rw [info_A8]; rfl)) rfl ⟨rfl, below_blk' RB.out (by have := HN.out; omega) _⟩

end Go.Proofs.YtejkimhmpnogkaaDoor
