/- The walk of the program's block (SHA-256). -/
import Derived.Test.YtejkimhmpnogkaaDoorSumW3
import Derived.Test.YtejkimhmpnogkaaDoorBUT
import Derived.Test.YtejkimhmpnogkaaDoorCPY
namespace Go.Proofs.YtejkimhmpnogkaaDoor
open Go.RowKit

theorem mword_eq (a c x y : UInt32) : a + c + x + y = a + x + c + y := by rw [UInt32.add_assoc a c x, UInt32.add_comm c x, ← UInt32.add_assoc]
/-- Words, and what stands behind them. -/
def vob (l : List UInt32) (R : Array Value) : Array Value := vrow l ++ R
section
variable {w : World} {b : Nat} {l : List UInt32} {R : Array Value} {T : TypeId} {fz : Nat × Nat}
theorem vob_cell (h : w.heap[b]? = some (.cells (vob l R) T fz)) {j : Nat} (hj : j < l.length) : w.cell? ⟨b, j, none⟩ = some (.int .u32 (UV (l.getD j 0))) := by
  rw [cell_at h]
  unfold vob
  rw [Array.getElem?_append_left (by rw [vrow_size]; exact hj), vrow_get l hj]
theorem vob_rest (h : w.heap[b]? = some (.cells (vob l R) T fz)) (j : Nat) : w.cell? ⟨b, l.length + j, none⟩ = R[j]? := by
  rw [cell_at h]
  unfold vob
  rw [Array.getElem?_append_right (by rw [vrow_size]; omega), vrow_size]
  congr 1; omega
theorem vob_store (h : w.heap[b]? = some (.cells (vob l R) T fz)) {j : Nat} (hj : j < l.length) (v : UInt32) : (w.setCell ⟨b, j, none⟩ (.int .u32 (UV v))).heap[b]? = some (.cells (vob (l.set j v) R) T fz) := by
  rw [at_setCell h]
  unfold vob
  rw [Array.setIfInBounds_append_left (by rw [vrow_size]; exact hj), vrow_set]
theorem vob_oct {x0 x1 x2 x3 x4 x5 x6 x7 : UInt32} (h : w.heap[b]? = some (.cells (vob [x0, x1, x2, x3, x4, x5, x6, x7] R) T fz)) :
    w.cell? ⟨b, 0, none⟩ = some (.int .u32 (UV x0)) ∧ w.cell? ⟨b, 1, none⟩ = some (.int .u32 (UV x1)) ∧ w.cell? ⟨b, 2, none⟩ = some (.int .u32 (UV x2)) ∧ w.cell? ⟨b, 3, none⟩ = some (.int .u32 (UV x3)) ∧
    w.cell? ⟨b, 4, none⟩ = some (.int .u32 (UV x4)) ∧ w.cell? ⟨b, 5, none⟩ = some (.int .u32 (UV x5)) ∧ w.cell? ⟨b, 6, none⟩ = some (.int .u32 (UV x6)) ∧ w.cell? ⟨b, 7, none⟩ = some (.int .u32 (UV x7)) :=
  ⟨vob_cell h (Nat.lt_of_sub_eq_succ rfl), vob_cell h (Nat.lt_of_sub_eq_succ rfl), vob_cell h (Nat.lt_of_sub_eq_succ rfl), vob_cell h (Nat.lt_of_sub_eq_succ rfl), vob_cell h (Nat.lt_of_sub_eq_succ rfl), vob_cell h (Nat.lt_of_sub_eq_succ rfl), vob_cell h (Nat.lt_of_sub_eq_succ rfl), vob_cell h (Nat.lt_of_sub_eq_succ rfl)⟩
end
theorem idx64 (l : List UInt32) (hl : l.length = 64) (i : Nat) (hi : i < 64) (w : World) : (Instr.index 93 (.agg (vrow l)) (.int .i64 (i : Int))).run Tryd.prog w = .ok (.int .u32 (UV (l.getD i 0))) w := by
  have hsz : (sizeOf 58).run Tryd.prog w = .ok 1 w := by kernel_rfl
  unfold Instr.index
  simp only [Sem.run_bind, asIntOf, Sem.run_pure, Result.andThen_ok, run_underlying Tryd.underlying93]
  rw [if_pos (by omega)]
  simp only [Sem.run_bind, hsz, Result.andThen_ok, Nat.mul_one, Int.toNat_natCast]
  unfold part
  have hagg : (isAgg 58).run Tryd.prog w = .ok false w := by
    unfold isAgg
    rw [Sem.run_bind, run_underlying Tryd.underlying58 w]
    rfl
  simp [Sem.run_bind, hagg, vrow_get l (show i < l.length by omega)]
theorem turned_lit (x : UInt32) (a b c : Nat) (ka kb kc : Int) (ea : (a : Int) = ka) (eb : (b : Int) = kb) (ec : (c : Int) = kc) (ha : 0 < a ∧ a < 32) (hb : 0 < b ∧ b < 32) (hc : 0 < c ∧ c < 32) (w : World) :
    Calls Tryd.prog 66 #[.int .u32 (UV x), .int .i64 ka, .int .i64 kb, .int .i64 kc] w fun e w' => e = .returned (.int .u32 (UV (SM.ror a x ^^^ SM.ror b x ^^^ SM.ror c x))) ∧ w' = w := by
  subst ea eb ec; exact rsame (turned_any x a b c ha hb hc w)
theorem moved_lit (x : UInt32) (a b c : Nat) (ka kb kc : Int) (ea : (a : Int) = ka) (eb : (b : Int) = kb) (ec : (c : Int) = kc) (ha : 0 < a ∧ a < 32) (hb : 0 < b ∧ b < 32) (hc : 0 < c ∧ c < 32) (w : World) :
    Calls Tryd.prog 68 #[.int .u32 (UV x), .int .i64 ka, .int .i64 kb, .int .i64 kc] w fun e w' => e = .returned (.int .u32 (UV (SM.ror a x ^^^ SM.ror b x ^^^ (x >>> UInt32.ofNat c)))) ∧ w' = w := by
  subst ea eb ec; exact rsame (moved_any x a b c ha hb hc w)

set_option maxRecDepth 100000 in
set_option maxHeartbeats 4000000 in
theorem block_any (h : SM.St) (bl : List UInt8) (sb bw off cap : Nat) (R : Array Value) (TG : TypeId) (fg : Nat × Nat) (W : World) (hb : bl.length = 64) (_hcap : 64 ≤ cap) (hS : W.heap[sb]? = some (.cells (vob (mstl h) R) 70 (0, 0)))
    (hG : W.heap[0]? = some (.cells (vrow SM.K) TG fg)) (hc : ∀ j, j < 64 → W.cell? ⟨bw, off + j, none⟩ = some (.int .u8 ((bl.getD j 0).toNat : Int))) (_hs0 : sb ≠ 0) :
    Calls Tryd.prog 47 #[.pointer (some ⟨sb, 0, none⟩), .slice (some ⟨bw, off, none⟩) 64 cap] W fun e w' => e = .returned (.tuple #[]) ∧ Only sb W w' ∧ w'.heap[sb]? = some (.cells (vob (mstl (SM.block h bl)) R) 70 (0, 0)) := by
  have hbw : bw < W.heap.size := World.block_lt_of_cell? W _ (hc 0 (by decide))
  have hsbl := lt_blk hS
  have h0l := lt_blk hG
  have HC := hid hc
  have HB := hid hb
  have HS := hid hS
  have HG := hid hG
  clear hc hb hS hG
  go_enter Tryd.func47, Tryd.ntmps47
  go_wp2_with fail
  obtain ⟨N, hN⟩ : ∃ N, N = W.heap.size := ⟨_, rfl⟩
  rw [← hN]
  have HN := hid hN
  have bwN : bw < N := by omega
  have sbN : sb < N := by omega
  have zN : 0 < N := by omega
  go_loopw [5, 6, 18] (fun _ _ i wr => ∃ k : Nat, k ≤ 64 ∧ i = .int .i64 (k : Int) ∧ wr.heap[N]? = some (.cells (vrow (mld bl k)) 93 (0, 0)) ∧ Below W.heap.size W wr) (fun _ _ i _ => (64 - intOf i).toNat)
  case atStart =>
    refine ⟨0, by omega, rfl, ?_, below_new _⟩
    rw [mld_zero]
    exact alloc_at' hN _
  case round =>
    clear hN
    obtain ⟨k, hk, rfl, rW, rb⟩ := hrel
    have RW := hid rW
    have RB := hid rb
    by_cases hlt : k < 64
    · have hd : decide ((k : Int) < 64) = true := decide_eq_true (by omega)
      have cb := ((rb.cell (p := ⟨bw, off + k, none⟩) hbw).trans (HC.out k hlt))
      have cw := vrow_cell rW (j := k / 4) (by rw [mld_length]; omega)
      have hf := free_at rW
      have hi0 : 0 ≤ (k : Int) := by omega
      have hi1 : (k : Int) < 64 := by omega
      have hi3 : 0 ≤ (k : Int) / 4 := by omega
      have hi4 : (k : Int) / 4 < 64 := by omega
      have hi5 : ((k : Int) / 4).toNat = k / 4 := by omega
      have hst := mld_step bl k (by have := HB.out; omega) hlt
      generalize hx : (mld bl k).getD (k / 4) 0 = x at *
      generalize bl.getD k 0 = c at *
      have HST := hid hst
      clear rW rb hx hst
      go_wp2_with fail
      refine ⟨⟨k + 1, by omega, by go_num, ?_, RB.out.setCell (by have := HN.out; simp; omega) _⟩, by simp [intOf]; omega⟩
      rw [HST.out]
      exact vrow_store RW.out _ _
    · have hk5 : k = 64 := by omega
      have hd : decide ((k : Int) < 64) = false := decide_eq_false (by omega)
      rw [hk5, mld_end bl HB.out] at rW
      have RW2 := hid rW
      have hwl : (SM.words bl 16).length = 16 := mwords_length bl 16
      have hW0 : SM.words bl 16 ++ List.replicate 48 0 = mgr (SM.words bl 16) 0 := rfl
      rw [hW0] at RW2
      clear rW rb RW hW0 hk5
      generalize hW16 : SM.words bl 16 = W16 at *
      have HW16 := hid hW16
      clear hW16
      go_wp2_with fail
      clear hd hlt hk
      go_loopw [9] (fun i wq => ∃ n : Nat, n ≤ 48 ∧ i = .int .i64 ((16 + n : Nat) : Int) ∧ wq.heap[N]? = some (.cells (vrow (mgr W16 n)) 93 (0, 0)) ∧ Below W.heap.size W wq) (fun i _ => (64 - intOf i).toNat)
      case atStart => exact ⟨0, by omega, rfl, RW2.out, RB.out⟩
      case round =>
        clear RW2 RB
        obtain ⟨n, hn, rfl, rW, rb⟩ := hrel
        have RW := hid rW
        have RB := hid rb
        obtain ⟨i, hi⟩ : ∃ i, 16 + n = i := ⟨_, rfl⟩
        rw [hi]
        have HI := hid hi
        have HWL := hid hwl
        by_cases hlt : i < 64
        · have hd : decide ((i : Int) < 64) = true := decide_eq_true (by omega)
          have hlen := mgr_length hwl hn
          have hst := mgr_step hwl (n := n) (i := i) (by omega) (by omega)
          have hi16 : 16 ≤ i := by omega
          have hi0 : 0 ≤ (i : Int) := by omega
          have hi1 : (i : Int) < 64 := by omega
          have hf := free_at rW
          have hcw := vrow_cell rW (j := i) (by omega)
          have c1 := vrow_cell rW (j := i - 16) (by omega)
          have c2 := vrow_cell rW (j := i - 15) (by omega)
          have c3 := vrow_cell rW (j := i - 7) (by omega)
          have c4 := vrow_cell rW (j := i - 2) (by omega)
          have q1 : IntKind.i64.wrap ((i : Int) - 16) = ((i - 16 : Nat) : Int) := by rw [show (i : Int) - 16 = ((i - 16 : Nat) : Int) by omega]; exact IntWalk.i64_in _ (by omega)
          have q2 : IntKind.i64.wrap ((i : Int) - 15) = ((i - 15 : Nat) : Int) := by rw [show (i : Int) - 15 = ((i - 15 : Nat) : Int) by omega]; exact IntWalk.i64_in _ (by omega)
          have q3 : IntKind.i64.wrap ((i : Int) - 7) = ((i - 7 : Nat) : Int) := by rw [show (i : Int) - 7 = ((i - 7 : Nat) : Int) by omega]; exact IntWalk.i64_in _ (by omega)
          have q4 : IntKind.i64.wrap ((i : Int) - 2) = ((i - 2 : Nat) : Int) := by rw [show (i : Int) - 2 = ((i - 2 : Nat) : Int) by omega]; exact IntWalk.i64_in _ (by omega)
          generalize (mgr W16 n).getD (i - 16) 0 = a at *
          generalize (mgr W16 n).getD (i - 15) 0 = b at *
          generalize (mgr W16 n).getD (i - 7) 0 = c at *
          generalize (mgr W16 n).getD (i - 2) 0 = d at *
          have g1 : i - 16 < 64 := by omega
          have g2 : i - 15 < 64 := by omega
          have g3 : i - 7 < 64 := by omega
          have g4 : i - 2 < 64 := by omega
          generalize i - 16 = i1 at *
          generalize i - 15 = i2 at *
          generalize i - 7 = i3 at *
          generalize i - 2 = i4 at *
          have e1 : 0 ≤ (i1 : Int) := by omega
          have e2 : 0 ≤ (i2 : Int) := by omega
          have e3 : 0 ≤ (i3 : Int) := by omega
          have e4 : 0 ≤ (i4 : Int) := by omega
          have f1 : (i1 : Int) < 64 := by omega
          have f2 : (i2 : Int) < 64 := by omega
          have f3 : (i3 : Int) < 64 := by omega
          have f4 : (i4 : Int) < 64 := by omega
          have HST := hid hst
          have HLEN := hid hlen
          have m1 := hid (fun w => moved_lit b 7 18 3 7 18 3 rfl rfl rfl (by decide) (by decide) (by decide) w)
          have m2 := hid (fun w => moved_lit d 17 19 10 17 19 10 rfl rfl rfl (by decide) (by decide) (by decide) w)
          clear rW rb hi hst hlen hwl
          go_wp2_with fail
          refine still_tail 25 (by kernel_rfl) (by kernel_rfl) ?_
          simp only [List.take_succ_cons, List.take_zero, List.drop_succ_cons, List.drop_zero]
          repeat (first | (refine wpStill_step (fun K hK => ?_); go_simp; refine hK _ ?_; clear hK K; try go_ints) | (refine wpStill_step (fun K hK => ?_); go_simp; (with_reducible refine ⟨_, m1.out _, hK _ ?_⟩); clear hK K; try go_ints) | (refine wpStill_step (fun K hK => ?_); go_simp; (with_reducible refine ⟨_, m2.out _, hK _ ?_⟩); clear hK K; try go_ints))
          refine wpStill_nil ?_
          go_wp2_with fail
          refine ⟨⟨n + 1, by have := HI.out; omega, by rw [← HI.out]; go_num, ?_, (RB.out.setCell (by have := HN.out; simp; omega) _).drew⟩, by simp [intOf]; omega⟩
          rw [← HST.out]
          have hv : a + c + (SM.ror 7 b ^^^ SM.ror 18 b ^^^ b >>> UInt32.ofNat 3) + (SM.ror 17 d ^^^ SM.ror 19 d ^^^ d >>> UInt32.ofNat 10) = mwordOf a b c d := mword_eq _ _ _ _
          rw [← hv]
          exact vrow_store RW.out _ _
        · have hd : decide ((i : Int) < 64) = false := decide_eq_false (by omega)
          have hn5 : n = 48 := by omega
          rw [hn5] at rW
          have hg : mgr W16 48 = SM.ext 48 W16 := by unfold mgr; simp
          rw [hg] at rW
          have RW2 := hid rW
          have hwl2 : (SM.ext 48 W16).length = 64 := by rw [SM.ext_length, hwl]
          have rS := keepB rb HS.out
          have rG := hid (keepB rb HG.out)
          obtain ⟨c0, c1, c2, c3, c4, c5, c6, c7⟩ := vob_oct rS
          have RS := hid rS
          clear rS rW rb RW hg hn5 hi hwl
          generalize hWLe : SM.ext 48 W16 = WL at *
          have HWLE := hid hWLe
          clear hWLe
          go_upto_region 13 with (fail)
          refine wp_region_list ?_
          refine wp_load_row (by rfl) _ _ (by rfl) (by rfl) (alloc_old rG.out) Tryd.underlying93 rfl (by rw [info_A64]; rfl) ?_
          go_wp2_with fail
          have S4 := alloc_old (o' := .cells (mstv h) 59) RS.out
          have W4 := alloc_old (o' := .cells (mstv h) 59) RW2.out
          have X4 := alloc_at wr (.cells (mstv h) 59)
          have B4 := below_alloc RB.out (.cells (mstv h) 59)
          have hNM : N < wr.heap.size := lt_blk RW2.out
          have hSM : sb < wr.heap.size := lt_blk RS.out
          have hWM : W.heap.size ≤ wr.heap.size := RB.out.size
          have hxx : #[.int .u32 (UV h.a), .int .u32 (UV h.b), .int .u32 (UV h.c), .int .u32 (UV h.d), .int .u32 (UV h.e), .int .u32 (UV h.f), .int .u32 (UV h.g), .int .u32 (UV h.h)] = mstv h := rfl
          rw [hxx]
          clear c0 c1 c2 c3 c4 c5 c6 c7 RS rG RW2 RB hxx
          generalize wr.alloc (.cells (mstv h) 59) = w4 at *
          generalize wr.heap.size = M at *
          have S4' := hid S4
          have W4' := hid W4
          have X4' := hid X4
          have B4' := hid B4
          clear S4 W4 X4 B4
          go_loopw [69] (fun i wq => ∃ n : Nat, n ≤ 64 ∧ i = .int .i64 (n : Int) ∧ wq.heap[sb]? = some (.cells (vob (mstl h) R) 70 (0, 0)) ∧ wq.heap[N]? = some (.cells (vrow WL) 93 (0, 0)) ∧ wq.heap[M]? = some (.cells (mstv (SM.rounds WL h n)) 59 (0, 0)) ∧ Below W.heap.size W wq) (fun i _ => (64 - intOf i).toNat)
          case atStart => exact ⟨0, by omega, rfl, S4'.out, W4'.out, X4'.out, B4'.out⟩
          case round =>
            clear S4' W4' X4' B4'
            obtain ⟨n, hn, rfl, rS, rW, rX, rb⟩ := hrel
            have RS := hid rS
            have RW := hid rW
            have RB := hid rb
            have HWL2 := hid hwl2
            by_cases hlt : n < 64
            · have hd : decide ((n : Int) < 64) = true := decide_eq_true (by omega)
              have hi0 : 0 ≤ (n : Int) := by omega
              have hi1 : (n : Int) < 64 := by omega
              have hix := fun w => idx64 SM.K rfl n hlt w
              have cw := vrow_cell rW (j := n) (by rw [hwl2]; exact hlt)
              have hrr : SM.rounds WL h (n + 1) = SM.round (SM.rounds WL h n) (SM.K.getD n 0) (WL.getD n 0) := rfl
              generalize SM.K.getD n 0 = kk at *
              generalize WL.getD n 0 = ww at *
              generalize hx : SM.rounds WL h n = x at *
              obtain ⟨xa, xb, xc, xd, xe, xf, xg, xh⟩ := x
              obtain ⟨c0, c1, c2, c3, c4, c5, c6, c7⟩ := oct_vcells rX
              have hf := free_at rX
              have RX := hid rX
              have HRR := hid hrr
              have r1 := hid (fun w => turned_lit xe 6 11 25 6 11 25 rfl rfl rfl (by decide) (by decide) (by decide) w)
              have r2 := hid (fun w => turned_lit xa 2 13 22 2 13 22 rfl rfl rfl (by decide) (by decide) (by decide) w)
              clear rS rW rX rb hx hrr hwl2
              go_wp2_with fail
              go_quiet ((go_at_call 66; with_reducible exact Calls.quiet_of_same (r1.out _)))
              have S3 : (wr.drewN nq).heap[sb]? = some (.cells (vob (mstl h) R) 70 (0, 0)) := RS.out
              have W3 : (wr.drewN nq).heap[N]? = some (.cells (vrow WL) 93 (0, 0)) := RW.out
              have X3 : (wr.drewN nq).heap[M]? = some (.cells (mstv ⟨xa, xb, xc, xd, xe, xf, xg, xh⟩) 59 (0, 0)) := RX.out
              have B3 : Below W.heap.size W (wr.drewN nq) := RB.out.trans (Dr.below ⟨_, rfl⟩)
              generalize wr.drewN nq = w3 at *
              clear RS RW RB RX c0 c1 c2 c3 c4 c5 c6 c7 hf cw
              obtain ⟨c0, c1, c2, c3, c4, c5, c6, c7⟩ := oct_vcells X3
              have RS := hid S3
              have RW := hid W3
              have RX := hid X3
              have RB := hid B3
              clear S3 W3 X3 B3
              go_wp2_with fail
              go_quiet ((go_at_call 66; with_reducible exact Calls.quiet_of_same (r2.out _)))
              have S3 : (w3.drewN nq).heap[sb]? = some (.cells (vob (mstl h) R) 70 (0, 0)) := RS.out
              have W3 : (w3.drewN nq).heap[N]? = some (.cells (vrow WL) 93 (0, 0)) := RW.out
              have X3 : (w3.drewN nq).heap[M]? = some (.cells (mstv ⟨xa, xb, xc, xd, xe, xf, xg, xh⟩) 59 (0, 0)) := RX.out
              have B3 : Below W.heap.size W (w3.drewN nq) := RB.out.trans (Dr.below ⟨_, rfl⟩)
              generalize w3.drewN nq = w5 at *
              clear RS RW RB RX c0 c1 c2 c3 c4 c5 c6 c7
              have RS := hid S3
              have RW := hid W3
              have RX := hid X3
              have RB := hid B3
              clear S3 W3 X3 B3
              go_wp2_with fail
              refine still_tail 2 (by kernel_rfl) (by kernel_rfl) ?_
              simp only [List.take_succ_cons, List.take_zero, List.drop_succ_cons, List.drop_zero]
              repeat (first | (refine wpStill_step (fun K hK => ?_); go_simp; refine hK _ ?_; clear hK K; try go_ints))
              refine wpStill_nil ?_
              have X6 : w5.drew.heap[M]? = some (.cells (mstv ⟨xa, xb, xc, xd, xe, xf, xg, xh⟩) 59 (0, 0)) := RX.out
              refine wp_copy_blk (by rfl) _ _ _ _ (by rfl) 58 Tryd.underlying105 (by kernel_rfl) M 1 7 7 ⟨M, 0, none⟩ 7 8 (by rfl) (by rfl) _ _ X6 [.int .u32 (UV xa), .int .u32 (UV xb), .int .u32 (UV xc), .int .u32 (UV xd), .int .u32 (UV xe), .int .u32 (UV xf), .int .u32 (UV xg)] (by rfl) (fun j v hv => ?_) (show 1 + 7 ≤ 8 by omega) (by simp [Value.oneCell']) (mstv ⟨xa, xa, xb, xc, xd, xe, xf, xg⟩) (by rfl) ?_
              · rw [Go.WideShapes.add_plain, Nat.zero_add, cell_at X6]
                match j, hv with
                | 0, hv => exact hv
                | 1, hv => exact hv
                | 2, hv => exact hv
                | 3, hv => exact hv
                | 4, hv => exact hv
                | 5, hv => exact hv
                | 6, hv => exact hv
              have l5 := lt_blk X6
              have S7 := hid ((blk_other (w := w5.drew) (b := M) (o := .cells (mstv ⟨xa, xa, xb, xc, xd, xe, xf, xg⟩) 59 (0, 0)) sb (by omega)).trans RS.out)
              have W7 := hid ((blk_other (w := w5.drew) (b := M) (o := .cells (mstv ⟨xa, xa, xb, xc, xd, xe, xf, xg⟩) 59 (0, 0)) N (by omega)).trans RW.out)
              have X7 := blk_heap (w := w5.drew) (b := M) (o := .cells (mstv ⟨xa, xa, xb, xc, xd, xe, xf, xg⟩) 59 (0, 0)) l5
              have B7 := hid (below_blk' (W := W) (w := w5.drew) RB.out.drew (b := M) (by omega) (.cells (mstv ⟨xa, xa, xb, xc, xd, xe, xf, xg⟩) 59 (0, 0)))
              clear RS RW RX RB X6 l5
              generalize blk w5.drew M (.cells (mstv ⟨xa, xa, xb, xc, xd, xe, xf, xg⟩) 59 (0, 0)) = w7 at *
              have c4 : w7.cell? ⟨M, 4, none⟩ = some (.int .u32 (UV xd)) := cell_at X7 4
              have c0 : w7.cell? ⟨M, 0, none⟩ = some (.int .u32 (UV xa)) := cell_at X7 0
              have hf := free_at X7
              have X7' := hid X7
              clear X7
              go_wp2_with fail
              refine ⟨⟨n + 1, by omega, by go_num, at_setCell_other (at_setCell_other S7.out (by show sb ≠ M; omega) _) (by show sb ≠ M; omega) _, at_setCell_other (at_setCell_other W7.out (by show N ≠ M; omega) _) (by show N ≠ M; omega) _, ?_, (B7.out.setCell (by show _ ≤ M; omega) _).setCell (by show _ ≤ M; omega) _⟩, by simp [intOf]; omega⟩
              rw [at_setCell (at_setCell X7'.out _ _), HRR.out]
              rfl
            · have hd : decide ((n : Int) < 64) = false := decide_eq_false (by omega)
              have hn5 : n = 64 := by omega
              have hxx := rX
              rw [hn5] at hxx
              obtain ⟨x, hx⟩ : ∃ x, SM.rounds WL h 64 = x := ⟨_, rfl⟩
              rw [hx] at hxx
              have RX := hid hxx
              have HX := hid hx
              have rO : Only sb W wr := Only.of_below rb
              have RO := hid rO
              clear rS rW rX rb hxx hx hn5 RW RB rO
              go_wp2_with fail
              clear hd hn hlt
              go_loopw [130] (fun i wq => ∃ n : Nat, n ≤ 8 ∧ i = .int .i64 (n : Int) ∧ wq.heap[sb]? = some (.cells (vob ((mstl (SM.plus h x)).take n ++ (mstl h).drop n) R) 70 (0, 0)) ∧
                wq.heap[M]? = some (.cells (vrow (mstl x)) 59 (0, 0)) ∧ Only sb W wq) (fun i _ => (8 - intOf i).toNat)
              case atStart => exact ⟨0, by omega, rfl, RS.out, RX.out, RO.out⟩
              case round =>
                clear RS RX RO
                obtain ⟨n, hn, rfl, rH, rX, ro⟩ := hrel
                have RH := hid rH
                have RX := hid rX
                have RO := hid ro
                by_cases hlt : n < 8
                · have hd : decide ((n : Int) < 8) = true := decide_eq_true (by omega)
                  have hi0 : 0 ≤ (n : Int) := by omega
                  have hi1 : (n : Int) < 8 := by omega
                  have hl1 : (mstl (SM.plus h x)).length = (mstl h).length := rfl
                  have hl2 : n < ((mstl (SM.plus h x)).take n ++ (mstl h).drop n).length := by rw [mput_len hl1]; exact hlt
                  have c1 := vob_cell rH (j := n) hl2
                  rw [mput_get hl1 (by exact hlt)] at c1
                  have c2 := vrow_cell rX (j := n) (by exact hlt)
                  have hf := free_at rH
                  have hs := mput_step hl1 (i := n) (by exact hlt)
                  rw [← mstl_plus, mzip_get (by exact hlt) (by exact hlt), mstl_plus] at hs
                  generalize (mstl h).getD n 0 = p at *
                  generalize (mstl x).getD n 0 = q at *
                  have HSS := hid hs
                  have HL2 := hid hl2
                  clear rH rX ro hl1 hs hl2
                  go_wp2_with fail
                  refine still_tail 13 (by kernel_rfl) (by kernel_rfl) ?_
                  simp only [List.take_succ_cons, List.take_zero, List.drop_succ_cons, List.drop_zero]
                  repeat (first | (refine wpStill_step (fun K hK => ?_); go_simp; refine hK _ ?_; clear hK K; try go_ints))
                  refine wpStill_nil ?_
                  go_wp2_with fail
                  refine ⟨⟨n + 1, by omega, by go_num, ?_, at_setCell_other RX.out (by show M ≠ sb; omega) _, (RO.out.setCell (.inl rfl) _).drew⟩, by simp [intOf]; omega⟩
                  rw [← HSS.out]
                  exact vob_store RH.out HL2.out _
                · have hd : decide ((n : Int) < 8) = false := decide_eq_false (by omega)
                  have hn5 : n = 8 := by omega
                  rw [hn5] at rH
                  have hp : (mstl (SM.plus h x)).take 8 ++ (mstl h).drop 8 = mstl (SM.plus h x) := rfl
                  have hblk : SM.plus h x = SM.block h bl := by
                    unfold SM.block
                    rw [HW16.out, HWLE.out, HX.out]
                  rw [hp, hblk] at rH
                  have RH2 := hid rH
                  clear rH rX ro hp RH
                  go_wp2_with fail
                  go_end0
                  exact ⟨rfl, RO.out, RH2.out⟩

end Go.Proofs.YtejkimhmpnogkaaDoor
