/- The walk of the program's block. -/
import Derived.Test.YtjfjbanoikbnoaaDoorShaW3
namespace Go.Proofs.YtjfjbanoikbnoaaDoor
open Go.RowKit

/-- Bytes in memory. -/
def brow (l : List UInt8) : Array Value := (l.map fun (c : UInt8) => Value.int .u8 (c.toNat : Int)).toArray
theorem brow_size (l : List UInt8) : (brow l).size = l.length := by simp [brow]
theorem brow_cell {w : World} {b : Nat} {l : List UInt8} {T : TypeId} {fz : Nat × Nat} (h : w.heap[b]? = some (.cells (brow l) T fz)) {j : Nat} (hj : j < l.length) : w.cell? ⟨b, j, none⟩ = some (.int .u8 ((l.getD j 0).toNat : Int)) := by
  rw [cell_at h]; simp [brow, hj]
theorem brow_store {w : World} {b : Nat} {l : List UInt8} {T : TypeId} {fz : Nat × Nat} (h : w.heap[b]? = some (.cells (brow l) T fz)) (j : Nat) (c : UInt8) : (w.setCell ⟨b, j, none⟩ (.int .u8 (c.toNat : Int))).heap[b]? = some (.cells (brow (l.set j c)) T fz) := by
  rw [at_setCell h]
  unfold brow
  rw [List.setIfInBounds_toArray, List.map_set]
theorem keepA {w : World} {p : Addr} {v : Value} (o : Obj) (h : w.cell? p = some v) : (w.alloc o).cell? p = some v := by rw [World.cell?_alloc_some _ _ _ (by rw [h]; rfl)]; exact h
theorem keepC {w : World} {b i j : Nat} {u v : Value} (h : w.cell? ⟨b, j, none⟩ = some v) (hne : j ≠ i) : (w.setCell ⟨b, i, none⟩ u).cell? ⟨b, j, none⟩ = some v := by
  have e : (⟨b, i, none⟩ : Addr) ≠ ⟨b, j, none⟩ := by intro hh; injection hh with _ h2; exact hne h2.symm
  rw [World.cell?_setCell_other (h := e)]; exact h
theorem mixed_18 (x : UInt64) (bw : Nat) (W : World) (h0 : W.cell? ⟨bw, 0, none⟩ = some (.int .i64 1)) (h1 : W.cell? ⟨bw, 1, none⟩ = some (.int .i64 8)) :
    Calls Tryd.prog 18 #[.int .u64 (UW x), .slice (some ⟨bw, 0, none⟩) 2 2] W fun e w' => e = .returned (.int .u64 (UW (SH.ror 1 x ^^^ SH.ror 8 x))) ∧ W = w' := by
  have h := mixed_any x bw 2 [1, 8] W (by decide) (by decide) (by decide) (fun j hj => match j, hj with | 0, _ => h0 | 1, _ => h1)
  have e : mixl x [1, 8] = SH.ror 1 x ^^^ SH.ror 8 x := by simp [mixl]
  rw [e] at h
  exact h
theorem mixed_1961 (x : UInt64) (bw : Nat) (W : World) (h0 : W.cell? ⟨bw, 0, none⟩ = some (.int .i64 19)) (h1 : W.cell? ⟨bw, 1, none⟩ = some (.int .i64 61)) :
    Calls Tryd.prog 18 #[.int .u64 (UW x), .slice (some ⟨bw, 0, none⟩) 2 2] W fun e w' => e = .returned (.int .u64 (UW (SH.ror 19 x ^^^ SH.ror 61 x))) ∧ W = w' := by
  have h := mixed_any x bw 2 [19, 61] W (by decide) (by decide) (by decide) (fun j hj => match j, hj with | 0, _ => h0 | 1, _ => h1)
  have e : mixl x [19, 61] = SH.ror 19 x ^^^ SH.ror 61 x := by simp [mixl]
  rw [e] at h
  exact h
theorem mixed_141841 (x : UInt64) (bw : Nat) (W : World) (h0 : W.cell? ⟨bw, 0, none⟩ = some (.int .i64 14)) (h1 : W.cell? ⟨bw, 1, none⟩ = some (.int .i64 18)) (h2 : W.cell? ⟨bw, 2, none⟩ = some (.int .i64 41)) :
    Calls Tryd.prog 18 #[.int .u64 (UW x), .slice (some ⟨bw, 0, none⟩) 3 3] W fun e w' => e = .returned (.int .u64 (UW (SH.ror 14 x ^^^ SH.ror 18 x ^^^ SH.ror 41 x))) ∧ W = w' := by
  have h := mixed_any x bw 3 [14, 18, 41] W (by decide) (by decide) (by decide) (fun j hj => match j, hj with | 0, _ => h0 | 1, _ => h1 | 2, _ => h2)
  have e : mixl x [14, 18, 41] = SH.ror 14 x ^^^ SH.ror 18 x ^^^ SH.ror 41 x := by simp [mixl]
  rw [e] at h
  exact h
theorem mixed_283439 (x : UInt64) (bw : Nat) (W : World) (h0 : W.cell? ⟨bw, 0, none⟩ = some (.int .i64 28)) (h1 : W.cell? ⟨bw, 1, none⟩ = some (.int .i64 34)) (h2 : W.cell? ⟨bw, 2, none⟩ = some (.int .i64 39)) :
    Calls Tryd.prog 18 #[.int .u64 (UW x), .slice (some ⟨bw, 0, none⟩) 3 3] W fun e w' => e = .returned (.int .u64 (UW (SH.ror 28 x ^^^ SH.ror 34 x ^^^ SH.ror 39 x))) ∧ W = w' := by
  have h := mixed_any x bw 3 [28, 34, 39] W (by decide) (by decide) (by decide) (fun j hj => match j, hj with | 0, _ => h0 | 1, _ => h1 | 2, _ => h2)
  have e : mixl x [28, 34, 39] = SH.ror 28 x ^^^ SH.ror 34 x ^^^ SH.ror 39 x := by simp [mixl]
  rw [e] at h
  exact h
theorem word_eq (a c x y : UInt64) : a + c + x + y = a + x + c + y := by rw [UInt64.add_assoc a c x, UInt64.add_comm c x, ← UInt64.add_assoc]
theorem info_State : (Tryd.prog.info? 37).map (·.size) = some 8 := by kernel_rfl
theorem idx80 (l : List UInt64) (hl : l.length = 80) (i : Nat) (hi : i < 80) (w : World) : (Instr.index 29 (.agg (wrow l)) (.int .i64 (i : Int))).run Tryd.prog w = .ok (.int .u64 (UW (l.getD i 0))) w := by
  have hsz : (sizeOf 28).run Tryd.prog w = .ok 1 w := by kernel_rfl
  unfold Instr.index
  simp only [Sem.run_bind, asIntOf, Sem.run_pure, Result.andThen_ok, run_underlying Tryd.underlying29]
  rw [if_pos (by omega)]
  simp only [Sem.run_bind, hsz, Result.andThen_ok, Nat.mul_one, Int.toNat_natCast]
  unfold part
  have hagg : (isAgg 28).run Tryd.prog w = .ok false w := by
    unfold isAgg
    rw [Sem.run_bind, run_underlying Tryd.underlying28 w]
    rfl
  simp [Sem.run_bind, hagg, wrow_get l (show i < l.length by omega)]

theorem slice_A128 (bb k : Nat) (hk : k < 16) (w : World) : (Instr.sliceAt 38 (.pointer (some ⟨bb, 0, none⟩)) (some (.int .i64 (8 * (k : Int)))) (some (.int .i64 (8 * (k : Int) + 8))) none).run Tryd.prog w = .ok (.slice (some ⟨bb, 8 * k, none⟩) 8 (128 - 8 * k)) w := by
  have ha : Tryd.prog.arrayLen 38 = 128 := by kernel_rfl
  have hsz : (sizeOf (Tryd.prog.elem 38)).run Tryd.prog w = .ok 1 w := by kernel_rfl
  rw [run_sliceAt_array_lh w 38 _ Tryd.underlying38 _ _ _ _ (by omega) (by omega) (by rw [ha]; omega), hsz, ha]
  unfold slicedAt
  simp only [Result.andThen_ok, Nat.mul_one]
  rw [if_neg (by omega), show (8 * (k : Int)).toNat = 8 * k by omega, show (8 * (k : Int) + 8).toNat - 8 * k = 8 by omega]
  by_cases hk0 : k = 0
  · subst hk0; rfl
  · simp [Addr.add]; omega

set_option maxRecDepth 100000 in
set_option maxHeartbeats 4000000 in
theorem block_any (h : SH.St) (bl : List UInt8) (sb bb : Nat) (fb fg : Nat × Nat) (TB TG : TypeId) (W : World) (hb : bl.length = 128) (hS : W.heap[sb]? = some (.cells (stv h) 37 (0, 0))) (hB : W.heap[bb]? = some (.cells (brow bl) TB fb))
    (hG : W.heap[0]? = some (.cells (wrow SH.K) TG fg)) (hne : sb ≠ bb) (hn0 : sb ≠ 0) :
    Calls Tryd.prog 14 #[.pointer (some ⟨sb, 0, none⟩), .pointer (some ⟨bb, 0, none⟩)] W fun e w' => e = .returned (.tuple #[]) ∧ Only sb W w' ∧ w'.heap[sb]? = some (.cells (stv (SH.block h bl)) 37 (0, 0)) := by
  have lS := lt_blk hS
  have lB := lt_blk hB
  have HS := hid hS
  have HBB := hid hB
  have HG := hid hG
  have HB := hid hb
  clear hS hB hG hb
  go_enter Tryd.func14, Tryd.ntmps14
  go_wp2_with fail
  obtain ⟨N, hN⟩ : ∃ N, N = W.heap.size := ⟨_, rfl⟩
  rw [← hN]
  have HN := hid hN
  rw [← hN] at lS lB
  go_loopw [18] (fun i wr => ∃ k : Nat, k ≤ 16 ∧ i = .int .i64 (k : Int) ∧ wr.heap[sb]? = some (.cells (stv h) 37 (0, 0)) ∧ wr.heap[bb]? = some (.cells (brow bl) TB fb) ∧ wr.heap[0]? = some (.cells (wrow SH.K) TG fg) ∧
    wr.heap[N]? = some (.cells (wrow (ld bl (8 * k))) 29 (0, 0)) ∧ Only sb W wr) (fun i _ => (16 - intOf i).toNat)
  case atStart =>
    refine ⟨0, by omega, rfl, alloc_old HS.out, alloc_old HBB.out, alloc_old HG.out, ?_, (Only.refl _ _).alloc _⟩
    rw [show 8 * 0 = 0 from rfl, ld_zero]
    exact alloc_at' hN _
  case round =>
    clear hN
    obtain ⟨k, hk, rfl, rS, rB, rG, rW, ro⟩ := hrel
    have RS := hid rS
    have RB := hid rB
    have RG := hid rG
    have RW := hid rW
    have RO := hid ro
    by_cases hlt : k < 16
    · have hd : decide ((k : Int) < 16) = true := decide_eq_true (by omega)
      have hi0 : 0 ≤ (k : Int) := by omega
      have hi1 : (k : Int) < 16 := by omega
      clear rS rB rG rW ro HS HBB HG
      have hsl := slice_A128 bb k hlt
      go_wp2_with fail
      clear hsl
      go_loopw [30] (fun i wr => ∃ j : Nat, j ≤ 8 ∧ i = .int .i64 (j : Int) ∧ wr.heap[sb]? = some (.cells (stv h) 37 (0, 0)) ∧ wr.heap[bb]? = some (.cells (brow bl) TB fb) ∧ wr.heap[0]? = some (.cells (wrow SH.K) TG fg) ∧
        wr.heap[N]? = some (.cells (wrow (ld bl (8 * k + j))) 29 (0, 0)) ∧ Only sb W wr) (fun i _ => (8 - intOf i).toNat)
      case atStart => exact ⟨0, by omega, rfl, RS.out, RB.out, RG.out, RW.out, RO.out⟩
      case round =>
        clear RS RB RG RW RO
        obtain ⟨j, hj, rfl, rS, rB, rG, rW, ro⟩ := hrel
        have RS := hid rS
        have RB := hid rB
        have RG := hid rG
        have RW := hid rW
        have RO := hid ro
        by_cases hlt2 : j < 8
        · have hd2 : decide ((j : Int) < 8) = true := decide_eq_true (by omega)
          have hj0 : 0 ≤ (j : Int) := by omega
          have hj1 : (j : Int) < 8 := by omega
          have cb := brow_cell rB (j := 8 * k + j) (by rw [HB.out]; omega)
          have cw := wrow_cell rW (j := k) (by rw [ld_length]; omega)
          have hf := free_at rW
          have hk80 : (k : Int) < 80 := by omega
          have hst := ld_step bl (8 * k + j) (by rw [HB.out]; omega) (by omega)
          rw [show (8 * k + j) / 8 = k by omega] at hst
          generalize (ld bl (8 * k + j)).getD k 0 = x at *
          generalize bl.getD (8 * k + j) 0 = c at *
          have HST := hid hst
          clear rS rB rG rW ro hst
          go_wp2_with fail
          refine ⟨⟨j + 1, by omega, by go_num, at_setCell_other RS.out (by show sb ≠ N; omega) _, at_setCell_other RB.out (by show bb ≠ N; omega) _, at_setCell_other RG.out (by show 0 ≠ N; omega) _, ?_, RO.out.setCell (.inr (by have := HN.out; simp; omega)) _⟩, by simp [intOf]; omega⟩
          rw [show 8 * k + (j + 1) = 8 * k + j + 1 by omega, HST.out]
          exact wrow_store RW.out _ _
        · have hd2 : decide ((j : Int) < 8) = false := decide_eq_false (by omega)
          have hj5 : j = 8 := by omega
          rw [hj5] at rW
          have RW2 := hid rW
          clear rS rB rG rW ro RW hj5
          go_wp2_with fail
          exact ⟨⟨k + 1, by omega, by go_num, RS.out, RB.out, RG.out, RW2.out, RO.out⟩, by simp [intOf]; omega⟩
    · have hd : decide ((k : Int) < 16) = false := decide_eq_false (by omega)
      have hk5 : k = 16 := by omega
      rw [hk5, show 8 * 16 = 128 from rfl, ld_end bl HB.out] at rW
      have RW2 := hid rW
      have hwl : (SH.words bl 16).length = 16 := words_length bl 16
      have hW0 : SH.words bl 16 ++ List.replicate 64 0 = gr (SH.words bl 16) 0 := rfl
      rw [hW0] at RW2
      clear rS rB rG rW ro RW hW0 hk5 HS HBB HG
      generalize hW16 : SH.words bl 16 = W16 at *
      have HW16 := hid hW16
      clear hW16
      go_wp2_with fail
      clear hd hlt hk
      go_loopw [9] (fun i wq => ∃ n : Nat, n ≤ 64 ∧ i = .int .i64 ((16 + n : Nat) : Int) ∧ wq.heap[sb]? = some (.cells (stv h) 37 (0, 0)) ∧ wq.heap[0]? = some (.cells (wrow SH.K) TG fg) ∧
        wq.heap[N]? = some (.cells (wrow (gr W16 n)) 29 (0, 0)) ∧ Only sb W wq) (fun i _ => (80 - intOf i).toNat)
      case atStart => exact ⟨0, by omega, rfl, RS.out, RG.out, RW2.out, RO.out⟩
      case round =>
        clear RS RB RG RW2 RO
        obtain ⟨n, hn, rfl, rS, rG, rW, ro⟩ := hrel
        have RS := hid rS
        have RG := hid rG
        have RW := hid rW
        have RO := hid ro
        obtain ⟨i, hi⟩ : ∃ i, 16 + n = i := ⟨_, rfl⟩
        rw [hi]
        have HI := hid hi
        have HWL := hid hwl
        by_cases hlt : i < 80
        · have hd : decide ((i : Int) < 80) = true := decide_eq_true (by omega)
          have hlen := gr_length hwl hn
          have hst := gr_step hwl (n := n) (i := i) (by omega) (by omega)
          have hi16 : 16 ≤ i := by omega
          have hi0 : 0 ≤ (i : Int) := by omega
          have hi1 : (i : Int) < 80 := by omega
          have h1 : (i : Int) - 16 = ((i - 16 : Nat) : Int) := by omega
          have h2 : (i : Int) - 15 = ((i - 15 : Nat) : Int) := by omega
          have h3 : (i : Int) - 7 = ((i - 7 : Nat) : Int) := by omega
          have h4 : (i : Int) - 2 = ((i - 2 : Nat) : Int) := by omega
          have c1 := wrow_cell rW (j := i - 16) (by omega)
          have c2 := wrow_cell rW (j := i - 15) (by omega)
          have c3 := wrow_cell rW (j := i - 7) (by omega)
          have c4 := wrow_cell rW (j := i - 2) (by omega)
          have hf := free_at rW
          have hcw := wrow_cell rW (j := i) (by omega)
          generalize (gr W16 n).getD (i - 16) 0 = a at *
          generalize (gr W16 n).getD (i - 15) 0 = b at *
          generalize (gr W16 n).getD (i - 7) 0 = c at *
          generalize (gr W16 n).getD (i - 2) 0 = d at *
          obtain ⟨i1, e1⟩ : ∃ i1, i - 16 = i1 := ⟨_, rfl⟩
          obtain ⟨i2, e2⟩ : ∃ i1, i - 15 = i1 := ⟨_, rfl⟩
          obtain ⟨i3, e3⟩ : ∃ i1, i - 7 = i1 := ⟨_, rfl⟩
          obtain ⟨i4, e4⟩ : ∃ i1, i - 2 = i1 := ⟨_, rfl⟩
          have g1 : i1 < i := by omega
          have g2 : i2 < i := by omega
          have g3 : i3 < i := by omega
          have g4 : i4 < i := by omega
          rw [e1] at h1 c1
          rw [e2] at h2 c2
          rw [e3] at h3 c3
          rw [e4] at h4 c4
          have q1 : IntKind.i64.wrap ((i : Int) - 16) = (i1 : Int) := by rw [h1]; exact IntWalk.i64_in _ (by omega)
          have q2 : IntKind.i64.wrap ((i : Int) - 15) = (i2 : Int) := by rw [h2]; exact IntWalk.i64_in _ (by omega)
          have q3 : IntKind.i64.wrap ((i : Int) - 7) = (i3 : Int) := by rw [h3]; exact IntWalk.i64_in _ (by omega)
          have q4 : IntKind.i64.wrap ((i : Int) - 2) = (i4 : Int) := by rw [h4]; exact IntWalk.i64_in _ (by omega)
          have k1 : IntKind.i64.wrap (i1 : Int) = (i1 : Int) := IntWalk.i64_in _ (by omega)
          have k3 : IntKind.i64.wrap (i3 : Int) = (i3 : Int) := IntWalk.i64_in _ (by omega)
          have m1 : 0 ≤ (i1 : Int) := by omega
          have m2 : 0 ≤ (i2 : Int) := by omega
          have m3 : 0 ≤ (i3 : Int) := by omega
          have m4 : 0 ≤ (i4 : Int) := by omega
          have f1 : (i1 : Int) < 80 := by omega
          have f2 : (i2 : Int) < 80 := by omega
          have f3 : (i3 : Int) < 80 := by omega
          have f4 : (i4 : Int) < 80 := by omega
          have HST := hid hst
          have HLEN := hid hlen
          clear rS rG rW ro hi hst hlen hwl e1 e2 e3 e4
          go_wp2_with fail
          go_quiet (fail)
          have S3 : (wr.drewN nq).heap[sb]? = some (.cells (stv h) 37 (0, 0)) := RS.out
          have G3 : (wr.drewN nq).heap[0]? = some (.cells (wrow SH.K) TG fg) := RG.out
          have W3 : (wr.drewN nq).heap[N]? = some (.cells (wrow (gr W16 n)) 29 (0, 0)) := RW.out
          have O3 : Only sb W (wr.drewN nq) := RO.out.drewN _
          have d1 : (wr.drewN nq).cell? ⟨N, i1, none⟩ = some (.int .u64 (UW a)) := c1
          have d3 : (wr.drewN nq).cell? ⟨N, i3, none⟩ = some (.int .u64 (UW c)) := c3
          have dw : (wr.drewN nq).cell? ⟨N, i, none⟩ = some (.int .u64 (UW ((gr W16 n).getD i 0))) := hcw
          have df : ∀ k, (wr.drewN nq).frozen? ⟨N, k, none⟩ = false := hf
          generalize wr.drewN nq = w3 at *
          clear RS RG RW RO c1 c2 c3 c4 hcw hf
          have lN3 := lt_blk W3
          have dd1 : w3.drew.cell? ⟨N, i1, none⟩ = some (.int .u64 (UW a)) := d1
          have dd3 : w3.drew.cell? ⟨N, i3, none⟩ = some (.int .u64 (UW c)) := d3
          have n1 : i1 ≠ i := by omega
          have n3 : i3 ≠ i := by omega
          go_wp2_with fail
          go_region_held3 (fun w' => w'.cell? ⟨N, i1, none⟩ = some (.int .u64 (UW a)) ∧ w'.cell? ⟨N, i3, none⟩ = some (.int .u64 (UW c)))
            (first | with_reducible exact ⟨dd1, dd3⟩ | (go_split_ands; refine ⟨?_, ?_⟩ <;> first | with_reducible assumption | go_simp))
            (first | (go_at_call 18; (with_reducible refine Calls.mono (mixed_18 b _ _ ?_ ?_) ?_); (· go_simp); (· go_simp); rintro e w4 ⟨rfl, rfl⟩) | (go_at_call 18; (with_reducible refine Calls.mono (mixed_1961 d _ _ ?_ ?_) ?_); (· go_simp); (· go_simp); rintro e w5 ⟨rfl, rfl⟩))
          all_goals
            go_wp2_with fail
            have hv : a + c + (SH.ror 1 b ^^^ SH.ror 8 b ^^^ b >>> 7) + (SH.ror 19 d ^^^ SH.ror 61 d ^^^ d >>> 6) = wordOf a b c d := word_eq _ _ _ _
            refine ⟨⟨n + 1, by have := HI.out; omega, by rw [← HI.out]; go_num, alloc_old (alloc_old (at_setCell_other S3 (by show sb ≠ N; omega) _)), alloc_old (alloc_old (at_setCell_other G3 (by show 0 ≠ N; omega) _)), ?_, (((O3.setCell (.inr (by have := HN.out; simp; omega)) _).alloc _).alloc _).drew⟩, by simp [intOf]; omega⟩
            rw [← HST.out, ← hv]
            exact alloc_old (alloc_old (wrow_store W3 _ _))
        · have hd : decide ((i : Int) < 80) = false := decide_eq_false (by omega)
          have hn5 : n = 64 := by omega
          rw [hn5] at rW
          have hg : gr W16 64 = SH.ext 64 W16 := by unfold gr; simp
          rw [hg] at rW
          have RW2 := hid rW
          have hwl2 : (SH.ext 64 W16).length = 80 := by rw [SH.ext_length, hwl]
          obtain ⟨c0, c1, c2, c3, c4, c5, c6, c7⟩ := oct_cells rS
          clear rS rG rW ro RW hg hn5 hi hwl
          generalize hWLe : SH.ext 64 W16 = WL at *
          have HWLE := hid hWLe
          clear hWLe
          go_wp2_with fail
          refine opwp_load_row _ _ (by rfl) (by rfl) (alloc_old RG.out) Tryd.underlying29 rfl (by rw [info_A80, wrow_size]; rfl) ?_
          rename_i hK
          refine hK _ _ ?_
          go_wp2_with fail
          have S4 := alloc_old (o' := .cells (stv h) 37) RS.out
          have W4 := alloc_old (o' := .cells (stv h) 37) RW2.out
          have X4 := alloc_at wr (.cells (stv h) 37)
          have O4 := RO.out.alloc (.cells (stv h) 37)
          have hNM : N < wr.heap.size := lt_blk RW2.out
          have hSM : sb < wr.heap.size := lt_blk RS.out
          have hWM : W.heap.size ≤ wr.heap.size := RO.out.size
          have hM4 : wr.heap.size < (wr.alloc (.cells (stv h) 37)).heap.size := lt_blk X4
          have hxx : #[.int .u64 (UW h.a), .int .u64 (UW h.b), .int .u64 (UW h.c), .int .u64 (UW h.d), .int .u64 (UW h.e), .int .u64 (UW h.f), .int .u64 (UW h.g), .int .u64 (UW h.h)] = stv h := rfl
          rw [hxx]
          clear c0 c1 c2 c3 c4 c5 c6 c7 RS RG RW2 RO hxx hK
          generalize wr.alloc (.cells (stv h) 37) = w4 at *
          generalize wr.heap.size = M at *
          have S4' := hid S4
          have W4' := hid W4
          have X4' := hid X4
          have O4' := hid O4
          clear S4 W4 X4 O4
          go_loopw [88] (fun i wq => ∃ n : Nat, n ≤ 80 ∧ i = .int .i64 (n : Int) ∧ wq.heap[sb]? = some (.cells (stv h) 37 (0, 0)) ∧ wq.heap[N]? = some (.cells (wrow WL) 29 (0, 0)) ∧ wq.heap[M]? = some (.cells (stv (SH.rounds WL h n)) 37 (0, 0)) ∧ Only sb W wq) (fun i _ => (80 - intOf i).toNat)
          case atStart => exact ⟨0, by omega, rfl, S4'.out, W4'.out, X4'.out, O4'.out⟩
          case round =>
            clear S4' W4' X4' O4' hM4
            obtain ⟨n, hn, rfl, rS, rW, rX, ro⟩ := hrel
            have RS := hid rS
            have RW := hid rW
            have RO := hid ro
            have HWL2 := hid hwl2
            by_cases hlt : n < 80
            · have hd : decide ((n : Int) < 80) = true := decide_eq_true (by omega)
              have hi0 : 0 ≤ (n : Int) := by omega
              have hi1 : (n : Int) < 80 := by omega
              have hix := fun w => idx80 SH.K rfl n hlt w
              have cw := wrow_cell rW (j := n) (by rw [hwl2]; exact hlt)
              have hrr : SH.rounds WL h (n + 1) = SH.round (SH.rounds WL h n) (SH.K.getD n 0) (WL.getD n 0) := rfl
              generalize SH.K.getD n 0 = kk at *
              obtain ⟨ww, hww⟩ : ∃ ww, WL.getD n 0 = ww := ⟨_, rfl⟩
              rw [hww] at cw hrr
              have HWW := hid hww
              generalize hx : SH.rounds WL h n = x at *
              obtain ⟨xa, xb, xc, xd, xe, xf, xg, xh⟩ := x
              obtain ⟨c0, c1, c2, c3, c4, c5, c6, c7⟩ := oct_cells rX
              have hf := free_at rX
              have RX := hid rX
              have HRR := hid hrr
              have lM := lt_blk rX
              have RLM := hid lM
              clear rS rW rX ro hx hrr hwl2 hww lM
              go_wp2_with fail
              clear hix
              have dd : wr.drew.cell? ⟨M, 0, none⟩ = some (.int .u64 (UW xa)) ∧ wr.drew.cell? ⟨M, 1, none⟩ = some (.int .u64 (UW xb)) ∧ wr.drew.cell? ⟨M, 2, none⟩ = some (.int .u64 (UW xc)) ∧ wr.drew.cell? ⟨M, 3, none⟩ = some (.int .u64 (UW xd)) ∧ wr.drew.cell? ⟨M, 4, none⟩ = some (.int .u64 (UW xe)) ∧ wr.drew.cell? ⟨M, 5, none⟩ = some (.int .u64 (UW xf)) ∧ wr.drew.cell? ⟨M, 6, none⟩ = some (.int .u64 (UW xg)) ∧ wr.drew.cell? ⟨M, 7, none⟩ = some (.int .u64 (UW xh)) ∧ wr.drew.cell? ⟨N, n, none⟩ = some (.int .u64 (UW ww)) := ⟨c0, c1, c2, c3, c4, c5, c6, c7, cw⟩
              go_region_held3 (fun w' => w'.cell? ⟨M, 0, none⟩ = some (.int .u64 (UW xa)) ∧ w'.cell? ⟨M, 1, none⟩ = some (.int .u64 (UW xb)) ∧ w'.cell? ⟨M, 2, none⟩ = some (.int .u64 (UW xc)) ∧ w'.cell? ⟨M, 3, none⟩ = some (.int .u64 (UW xd)) ∧ w'.cell? ⟨M, 4, none⟩ = some (.int .u64 (UW xe)) ∧ w'.cell? ⟨M, 5, none⟩ = some (.int .u64 (UW xf)) ∧ w'.cell? ⟨M, 6, none⟩ = some (.int .u64 (UW xg)) ∧ w'.cell? ⟨M, 7, none⟩ = some (.int .u64 (UW xh)) ∧ w'.cell? ⟨N, n, none⟩ = some (.int .u64 (UW ww)))
                (first | with_reducible exact dd | (go_split_ands; refine ⟨?_, ?_, ?_, ?_, ?_, ?_, ?_, ?_, ?_⟩ <;> first | with_reducible assumption | go_simp))
                (first | (go_at_call 18; (with_reducible refine Calls.mono (mixed_141841 xe _ _ ?_ ?_ ?_) ?_); (· go_simp); (· go_simp); (· go_simp); rintro e w9 ⟨rfl, rfl⟩))
              clear dd
              have S3 := alloc_old (o' := (.cells #[.int .i64 14, .int .i64 18, .int .i64 41] 3)) RS.out
              have W3 := alloc_old (o' := (.cells #[.int .i64 14, .int .i64 18, .int .i64 41] 3)) RW.out
              have X3 := alloc_old (o' := (.cells #[.int .i64 14, .int .i64 18, .int .i64 41] 3)) RX.out
              have O3 := (RO.out.alloc (.cells #[.int .i64 14, .int .i64 18, .int .i64 41] 3)).drew
              have lM := Nat.lt_of_lt_of_le RLM.out (show wr.heap.size ≤ (wr.alloc (.cells #[.int .i64 14, .int .i64 18, .int .i64 41] 3)).heap.size by simp)
              replace S3 : (wr.alloc (.cells #[.int .i64 14, .int .i64 18, .int .i64 41] 3)).drew.heap[sb]? = _ := S3
              replace W3 : (wr.alloc (.cells #[.int .i64 14, .int .i64 18, .int .i64 41] 3)).drew.heap[N]? = _ := W3
              replace X3 : (wr.alloc (.cells #[.int .i64 14, .int .i64 18, .int .i64 41] 3)).drew.heap[M]? = _ := X3
              replace lM : M < (wr.alloc (.cells #[.int .i64 14, .int .i64 18, .int .i64 41] 3)).drew.heap.size := lM
              clear RS RW RX RO RLM c0 c1 c2 c3 c4 c5 c6 c7 cw hf
              generalize (wr.alloc (.cells #[.int .i64 14, .int .i64 18, .int .i64 41] 3)).drew = w3 at *
              obtain ⟨c0, c1, c2, c3, c4, c5, c6, c7⟩ := oct_cells X3
              have cw := wrow_cell W3 (j := n) (by rw [HWL2.out]; exact hlt)
              rw [HWW.out] at cw
              have hf := free_at X3
              have RS := hid S3
              have RW := hid W3
              have RX := hid X3
              have RO := hid O3
              have RLM := hid lM
              clear S3 W3 X3 O3 lM
              go_wp2_with fail
              have dd : w3.drew.cell? ⟨M, 0, none⟩ = some (.int .u64 (UW xa)) ∧ w3.drew.cell? ⟨M, 1, none⟩ = some (.int .u64 (UW xb)) ∧ w3.drew.cell? ⟨M, 2, none⟩ = some (.int .u64 (UW xc)) ∧ w3.drew.cell? ⟨M, 3, none⟩ = some (.int .u64 (UW xd)) ∧ w3.drew.cell? ⟨M, 4, none⟩ = some (.int .u64 (UW xe)) ∧ w3.drew.cell? ⟨M, 5, none⟩ = some (.int .u64 (UW xf)) ∧ w3.drew.cell? ⟨M, 6, none⟩ = some (.int .u64 (UW xg)) ∧ w3.drew.cell? ⟨M, 7, none⟩ = some (.int .u64 (UW xh)) ∧ w3.drew.cell? ⟨N, n, none⟩ = some (.int .u64 (UW ww)) := ⟨c0, c1, c2, c3, c4, c5, c6, c7, cw⟩
              go_region_held3 (fun w' => w'.cell? ⟨M, 0, none⟩ = some (.int .u64 (UW xa)) ∧ w'.cell? ⟨M, 1, none⟩ = some (.int .u64 (UW xb)) ∧ w'.cell? ⟨M, 2, none⟩ = some (.int .u64 (UW xc)) ∧ w'.cell? ⟨M, 3, none⟩ = some (.int .u64 (UW xd)) ∧ w'.cell? ⟨M, 4, none⟩ = some (.int .u64 (UW xe)) ∧ w'.cell? ⟨M, 5, none⟩ = some (.int .u64 (UW xf)) ∧ w'.cell? ⟨M, 6, none⟩ = some (.int .u64 (UW xg)) ∧ w'.cell? ⟨M, 7, none⟩ = some (.int .u64 (UW xh)) ∧ w'.cell? ⟨N, n, none⟩ = some (.int .u64 (UW ww)))
                (first | with_reducible exact dd | (go_split_ands; refine ⟨?_, ?_, ?_, ?_, ?_, ?_, ?_, ?_, ?_⟩ <;> first | with_reducible assumption | go_simp))
                (first | (go_at_call 18; (with_reducible refine Calls.mono (mixed_283439 xa _ _ ?_ ?_ ?_) ?_); (· go_simp); (· go_simp); (· go_simp); rintro e w9 ⟨rfl, rfl⟩))
              clear dd
              have S3 := alloc_old (o' := (.cells #[.int .i64 28, .int .i64 34, .int .i64 39] 3)) RS.out
              have W3 := alloc_old (o' := (.cells #[.int .i64 28, .int .i64 34, .int .i64 39] 3)) RW.out
              have X3 := alloc_old (o' := (.cells #[.int .i64 28, .int .i64 34, .int .i64 39] 3)) RX.out
              have O3 := (RO.out.alloc (.cells #[.int .i64 28, .int .i64 34, .int .i64 39] 3)).drew
              have lM := Nat.lt_of_lt_of_le RLM.out (show w3.heap.size ≤ (w3.alloc (.cells #[.int .i64 28, .int .i64 34, .int .i64 39] 3)).heap.size by simp)
              replace S3 : (w3.alloc (.cells #[.int .i64 28, .int .i64 34, .int .i64 39] 3)).drew.heap[sb]? = _ := S3
              replace W3 : (w3.alloc (.cells #[.int .i64 28, .int .i64 34, .int .i64 39] 3)).drew.heap[N]? = _ := W3
              replace X3 : (w3.alloc (.cells #[.int .i64 28, .int .i64 34, .int .i64 39] 3)).drew.heap[M]? = _ := X3
              replace lM : M < (w3.alloc (.cells #[.int .i64 28, .int .i64 34, .int .i64 39] 3)).drew.heap.size := lM
              clear RS RW RX RO RLM c0 c1 c2 c3 c4 c5 c6 c7 cw hf
              generalize (w3.alloc (.cells #[.int .i64 28, .int .i64 34, .int .i64 39] 3)).drew = w5 at *
              obtain ⟨c0, c1, c2, c3, c4, c5, c6, c7⟩ := oct_cells X3
              have cw := wrow_cell W3 (j := n) (by rw [HWL2.out]; exact hlt)
              rw [HWW.out] at cw
              have hf := free_at X3
              have RS := hid S3
              have RW := hid W3
              have RX := hid X3
              have RO := hid O3
              have RLM := hid lM
              clear S3 W3 X3 O3 lM
              go_wp2_with fail
              have E := set8 RX.out (xh + (SH.ror 14 xe ^^^ SH.ror 18 xe ^^^ SH.ror 41 xe) + (xg ^^^ xe &&& (xf ^^^ xg)) + kk + ww + ((SH.ror 28 xa ^^^ SH.ror 34 xa ^^^ SH.ror 39 xa) + (xa &&& xb ||| xc &&& (xa ||| xb)))) xa xb xc
                (xd + (xh + (SH.ror 14 xe ^^^ SH.ror 18 xe ^^^ SH.ror 41 xe) + (xg ^^^ xe &&& (xf ^^^ xg)) + kk + ww)) xe xf xg
              rw [E]
              have l3 := lt_blk RX.out
              refine ⟨⟨n + 1, by omega, by go_num, (blk_other sb (by omega)).trans RS.out, (blk_other N (by omega)).trans RW.out, ?_, RO.out.blk (.inr (by omega)) _⟩, by simp [intOf]; omega⟩
              rw [HRR.out]
              exact blk_heap l3
            · have hd : decide ((n : Int) < 80) = false := decide_eq_false (by omega)
              have hn5 : n = 80 := by omega
              have hxx := rX
              rw [hn5] at hxx
              obtain ⟨x, hx⟩ : ∃ x, SH.rounds WL h 80 = x := ⟨_, rfl⟩
              rw [hx] at hxx
              have RX := hid hxx
              have HX := hid hx
              clear rS rW rX ro hxx hx hn5 RW
              go_wp2_with fail
              clear hd hn hlt
              go_loopw [159] (fun i wq => ∃ n : Nat, n ≤ 8 ∧ i = .int .i64 (n : Int) ∧ wq.heap[sb]? = some (.cells (wrow ((stl (SH.plus h x)).take n ++ (stl h).drop n)) 37 (0, 0)) ∧
                wq.heap[M]? = some (.cells (wrow (stl x)) 37 (0, 0)) ∧ Only sb W wq) (fun i _ => (8 - intOf i).toNat)
              case atStart => exact ⟨0, by omega, rfl, RS.out, RX.out, RO.out⟩
              case round =>
                clear RS RX RO
                obtain ⟨n, hn, rfl, rH, rX, ro⟩ := hrel
                have RH := hid rH
                have RX := hid rX
                have RO := hid ro
                by_cases hlt : n < 8
                · have hd : decide ((n : Int) < 8) = true := decide_eq_true (by omega)
                  have hi0 : 0 ≤ (n : Int) := by omega
                  have hi1 : (n : Int) < 8 := by omega
                  have hl1 : (stl (SH.plus h x)).length = (stl h).length := rfl
                  have c1 := wrow_cell rH (j := n) (by rw [put_len hl1]; exact hlt)
                  rw [put_get hl1 (by exact hlt)] at c1
                  have c2 := wrow_cell rX (j := n) (by exact hlt)
                  have hf := free_at rH
                  have hs := put_step hl1 (i := n) (by exact hlt)
                  rw [← stl_plus, zip_get (by exact hlt) (by exact hlt), stl_plus] at hs
                  generalize (stl h).getD n 0 = p at *
                  generalize (stl x).getD n 0 = q at *
                  have HSS := hid hs
                  clear rH rX ro hl1 hs
                  go_wp2_with fail
                  refine still_tail 11 (by kernel_rfl) (by kernel_rfl) ?_
                  simp only [List.take_succ_cons, List.take_zero, List.drop_succ_cons, List.drop_zero]
                  repeat (first | (refine wpStill_step (fun K hK => ?_); go_simp; refine hK _ ?_; clear hK K; try go_ints))
                  refine wpStill_nil ?_
                  go_wp2_with fail
                  refine ⟨⟨n + 1, by omega, by go_num, ?_, at_setCell_other RX.out (by show M ≠ sb; omega) _, (RO.out.setCell (.inl rfl) _).drew⟩, by simp [intOf]; omega⟩
                  rw [← HSS.out]
                  exact wrow_store RH.out _ _
                · have hd : decide ((n : Int) < 8) = false := decide_eq_false (by omega)
                  have hn5 : n = 8 := by omega
                  rw [hn5] at rH
                  have hp : (stl (SH.plus h x)).take 8 ++ (stl h).drop 8 = stl (SH.plus h x) := rfl
                  have hblk : SH.plus h x = SH.block h bl := by
                    unfold SH.block
                    rw [HW16.out, HWLE.out, HX.out]
                  rw [hp, hblk] at rH
                  have RH2 := hid rH
                  clear rH rX ro hp RH
                  go_wp2_with fail
                  go_end0
                  exact ⟨rfl, RO.out, RH2.out⟩

end Go.Proofs.YtjfjbanoikbnoaaDoor
