/- The walks of the order's numbers: reading bytes. -/
import Derived.Test.YtaencgjlneohnaaOrdW2
import Derived.Test.YtaencgjlneohnaaAR
namespace Go.Proofs.Ytaencgjlneohnaa
open Go.RowKit DG

@[go_sem] theorem make4 (w : World) : (Instr.makeSlice 45 (.int .i64 4) (.int .i64 4)).run Try.prog w = .ok (.slice (some ⟨w.heap.size, 0, none⟩) 4 4) (w.alloc (.cells (ints .u64 [0, 0, 0, 0]) 23)) := by kernel_rfl
@[go_sem] theorem make8 (w : World) : (Instr.makeSlice 45 (.int .i64 8) (.int .i64 8)).run Try.prog w = .ok (.slice (some ⟨w.heap.size, 0, none⟩) 8 8) (w.alloc (.cells (ints .u64 [0, 0, 0, 0, 0, 0, 0, 0]) 23)) := by kernel_rfl

set_option maxHeartbeats 1000000 in
theorem Of_32 (s : ByteArray) (W : World) (hs' : s.size = 32) :
    Calls Try.prog 7 #[.string s] W fun e w' => e = .returned (.tuple #[.agg (quad (bytesNat s.data.toList % ordL)), .int .i64 0]) ∧ Below W.heap.size W w' := by
  have hs2 : (s.size : Int) = 32 := by omega
  have HS := hid hs'
  have hsl : s.data.toList.length = 32 := by simpa using HS.out
  have HSL := hid hsl
  clear hsl
  go_enter Try.func7, Try.ntmps7
  go_wp2_with fail
  go_loopw [21] (fun i wr => ∃ k : Nat, k ≤ 32 ∧ i = .int .i64 (k : Int) ∧ wr.heap[W.heap.size]? = some (.cells #[.int .u64 0, .int .u64 0, .int .u64 0, .int .u64 0] 26 (0, 0)) ∧
      wr.heap[W.heap.size + 1]? = some (.cells (ints .u64 (digs (2 ^ 64) (bytesNat (s.data.toList.take k)) 4)) 23 (0, 0)) ∧ Below W.heap.size W wr) (fun i _ => (32 - intOf i).toNat)
  case atStart =>
    have e0 : digs (2 ^ 64) (bytesNat (s.data.toList.take 0)) 4 = [0, 0, 0, 0] := by rw [List.take_zero]; rfl
    refine ⟨0, by omega, rfl, alloc_old (alloc_at _ _), ?_, below_alloc (below_new _) _⟩
    rw [e0]
    have := alloc_at (W.alloc (.cells #[.int .u64 0, .int .u64 0, .int .u64 0, .int .u64 0] 26)) (.cells (ints .u64 [0, 0, 0, 0]) 23)
    simpa using this
  case round =>
    obtain ⟨k, hk, rfl, ha, hq, hb⟩ := hrel
    have HA := hid ha
    clear ha
    by_cases hlt : k < 32
    · have cj := ints_cell hq (j := k / 8) (by rw [digs_length]; omega)
      have hf := free_at hq
      have hkz : k < s.size := by omega
      have hi1 : 0 ≤ (k : Int) / 8 := by omega
      have hi2 : (k : Int) / 8 < 4 := by omega
      have hi3 : ((k : Int) / 8).toNat = k / 8 := by omega
      obtain ⟨hst, hlt2⟩ := word_step (n := bytesNat (s.data.toList.take k)) (b := s[k].toNat) (k := k) (m := 4) (by
        have := bytesNat_lt (s.data.toList.take k); rwa [List.length_take, HSL.out, Nat.min_eq_left hk] at this) s[k].toNat_lt (by omega)
      have htk := bytesNat_take_succ s.data.toList k (by rw [HSL.out]; exact hlt)
      rw [show s.data.toList[k]'(by rw [HSL.out]; exact hlt) = s[k] from rfl] at htk
      rw [← htk] at hst
      have hst2 := ints_store hq (k / 8) ((digs (2 ^ 64) (bytesNat (s.data.toList.take k)) 4).getD (k / 8) 0 + s[k].toNat * 2 ^ (8 * (k % 8)))
      rw [← hst, ← or_byte _ _ _ hlt2 s[k].toNat_lt (Nat.mod_lt _ (by decide))] at hst2
      generalize hx : (digs (2 ^ 64) (bytesNat (s.data.toList.take k)) 4).getD (k / 8) 0 = x at *
      have HN := hid hst2
      clear hx hq htk hst hlt2 hst2
      go_wp2_with fail
      refine still_tail 16 (by kernel_rfl) (by kernel_rfl) ?_
      simp only [List.take_succ_cons, List.take_zero, List.drop_succ_cons, List.drop_zero]
      repeat (first | (refine wpStill_step (fun K hK => ?_); go_simp; refine hK _ ?_; clear hK K; try go_ints))
      refine wpStill_nil ?_
      go_wp2_with fail
      exact ⟨⟨k + 1, by omega, by go_num, at_setCell_other HA.out (by simp) _, HN.out, (hb.setCell (by simp) _).drew⟩, by simp [intOf]; omega⟩
    · have hkn : k = 32 := by omega
      subst hkn
      have hwc : ∀ j, j < 4 → wr.cell? ⟨W.heap.size + 1, 0 + j, none⟩ = some (.int .u64 (((digs (2 ^ 64) (bytesNat s.data.toList) 4).getD j 0 : Nat) : Int)) := fun j hj => by
        rw [List.take_of_length_le (by rw [HSL.out]; omega)] at hq
        rw [Nat.zero_add]; exact ints_cell hq (by rw [digs_length]; exact hj)
      have HW := hid hwc
      clear hwc hq
      go_wp2_with fail
      have hcall := of_any (W.heap.size + 1) 0 4 (digs (2 ^ 64) (bytesNat s.data.toList) 4) wr (digs_all (by decide) _ _) (by rw [digs_length]; omega) (by rw [digs_length]; omega) (by rw [digs_length]; omega) (by rw [digs_length]; exact HW.out)
      rw [digs_length, val_digs, Nat.mod_eq_of_lt (a := bytesNat s.data.toList) (b := (2 ^ 64) ^ 4) (by have := bytesNat_lt s.data.toList; rw [HSL.out] at this; exact Nat.lt_of_lt_of_eq this (by decide))] at hcall
      refine hcall.mono ?_
      clear hcall
      rintro e w' ⟨rfl, hb2⟩
      have ha2 := (hb2.block W.heap.size (lt_blk HA.out)).trans HA.out
      have hb3 := hb.trans (hb2.mono hb.size)
      clear HA HW hb2 hb
      generalize hn : bytesNat s.data.toList % ordL = n at *
      have hltn : n < ordL := by rw [← hn]; exact Nat.mod_lt _ (by decide)
      have HN := hid hn
      clear hn
      obtain ⟨a0, a1, a2, a3, hqq, _⟩ := quad_w4 n (by unfold ordL at hltn; omega)
      rw [hqq]
      have HQQ := hid hqq
      clear hqq
      have c0 : w'.cell? ⟨W.heap.size, 0, none⟩ = some (.int .u64 0) := cell_at ha2 0
      have c1 : w'.cell? ⟨W.heap.size, 1, none⟩ = some (.int .u64 0) := cell_at ha2 1
      have c2 : w'.cell? ⟨W.heap.size, 2, none⟩ = some (.int .u64 0) := cell_at ha2 2
      have c3 : w'.cell? ⟨W.heap.size, 3, none⟩ = some (.int .u64 0) := cell_at ha2 3
      have hf := free_at ha2
      clear ha2
      go_wp2_with fail
      refine bodyPost_ret (v := .tuple #[.agg #[.int .u64 a0, .int .u64 a1, .int .u64 a2, .int .u64 a3], .int .i64 0]) (by simp [results, Try.results7, go_sem, c0, c1, c2, c3]) rfl ⟨by rw [HN.out, HQQ.out], ?_⟩
      exact (((hb3.setCell (Nat.le_refl _) _).setCell (Nat.le_refl _) _).setCell (Nat.le_refl _) _).setCell (Nat.le_refl _) _

set_option maxHeartbeats 1000000 in
theorem Of_64 (s : ByteArray) (W : World) (hs' : s.size = 64) :
    Calls Try.prog 7 #[.string s] W fun e w' => e = .returned (.tuple #[.agg (quad (bytesNat s.data.toList % ordL)), .int .i64 0]) ∧ Below W.heap.size W w' := by
  have hs2 : (s.size : Int) = 64 := by omega
  have HS := hid hs'
  have hsl : s.data.toList.length = 64 := by simpa using HS.out
  have HSL := hid hsl
  clear hsl
  go_enter Try.func7, Try.ntmps7
  go_wp2_with fail
  go_loopw [21] (fun i wr => ∃ k : Nat, k ≤ 64 ∧ i = .int .i64 (k : Int) ∧ wr.heap[W.heap.size]? = some (.cells #[.int .u64 0, .int .u64 0, .int .u64 0, .int .u64 0] 26 (0, 0)) ∧
      wr.heap[W.heap.size + 1]? = some (.cells (ints .u64 (digs (2 ^ 64) (bytesNat (s.data.toList.take k)) 8)) 23 (0, 0)) ∧ Below W.heap.size W wr) (fun i _ => (64 - intOf i).toNat)
  case atStart =>
    have e0 : digs (2 ^ 64) (bytesNat (s.data.toList.take 0)) 8 = [0, 0, 0, 0, 0, 0, 0, 0] := by rw [List.take_zero]; rfl
    refine ⟨0, by omega, rfl, alloc_old (alloc_at _ _), ?_, below_alloc (below_new _) _⟩
    rw [e0]
    have := alloc_at (W.alloc (.cells #[.int .u64 0, .int .u64 0, .int .u64 0, .int .u64 0] 26)) (.cells (ints .u64 [0, 0, 0, 0, 0, 0, 0, 0]) 23)
    simpa using this
  case round =>
    obtain ⟨k, hk, rfl, ha, hq, hb⟩ := hrel
    have HA := hid ha
    clear ha
    by_cases hlt : k < 64
    · have cj := ints_cell hq (j := k / 8) (by rw [digs_length]; omega)
      have hf := free_at hq
      have hkz : k < s.size := by omega
      have hi1 : 0 ≤ (k : Int) / 8 := by omega
      have hi2 : (k : Int) / 8 < 8 := by omega
      have hi3 : ((k : Int) / 8).toNat = k / 8 := by omega
      obtain ⟨hst, hlt2⟩ := word_step (n := bytesNat (s.data.toList.take k)) (b := s[k].toNat) (k := k) (m := 8) (by
        have := bytesNat_lt (s.data.toList.take k); rwa [List.length_take, HSL.out, Nat.min_eq_left hk] at this) s[k].toNat_lt (by omega)
      have htk := bytesNat_take_succ s.data.toList k (by rw [HSL.out]; exact hlt)
      rw [show s.data.toList[k]'(by rw [HSL.out]; exact hlt) = s[k] from rfl] at htk
      rw [← htk] at hst
      have hst2 := ints_store hq (k / 8) ((digs (2 ^ 64) (bytesNat (s.data.toList.take k)) 8).getD (k / 8) 0 + s[k].toNat * 2 ^ (8 * (k % 8)))
      rw [← hst, ← or_byte _ _ _ hlt2 s[k].toNat_lt (Nat.mod_lt _ (by decide))] at hst2
      generalize hx : (digs (2 ^ 64) (bytesNat (s.data.toList.take k)) 8).getD (k / 8) 0 = x at *
      have HN := hid hst2
      clear hx hq htk hst hlt2 hst2
      go_wp2_with fail
      refine still_tail 16 (by kernel_rfl) (by kernel_rfl) ?_
      simp only [List.take_succ_cons, List.take_zero, List.drop_succ_cons, List.drop_zero]
      repeat (first | (refine wpStill_step (fun K hK => ?_); go_simp; refine hK _ ?_; clear hK K; try go_ints))
      refine wpStill_nil ?_
      go_wp2_with fail
      exact ⟨⟨k + 1, by omega, by go_num, at_setCell_other HA.out (by simp) _, HN.out, (hb.setCell (by simp) _).drew⟩, by simp [intOf]; omega⟩
    · have hkn : k = 64 := by omega
      subst hkn
      have hwc : ∀ j, j < 8 → wr.cell? ⟨W.heap.size + 1, 0 + j, none⟩ = some (.int .u64 (((digs (2 ^ 64) (bytesNat s.data.toList) 8).getD j 0 : Nat) : Int)) := fun j hj => by
        rw [List.take_of_length_le (by rw [HSL.out]; omega)] at hq
        rw [Nat.zero_add]; exact ints_cell hq (by rw [digs_length]; exact hj)
      have HW := hid hwc
      clear hwc hq
      go_wp2_with fail
      have hcall := of_any (W.heap.size + 1) 0 8 (digs (2 ^ 64) (bytesNat s.data.toList) 8) wr (digs_all (by decide) _ _) (by rw [digs_length]; omega) (by rw [digs_length]; omega) (by rw [digs_length]; omega) (by rw [digs_length]; exact HW.out)
      rw [digs_length, val_digs, Nat.mod_eq_of_lt (a := bytesNat s.data.toList) (b := (2 ^ 64) ^ 8) (by have := bytesNat_lt s.data.toList; rw [HSL.out] at this; exact Nat.lt_of_lt_of_eq this (by decide))] at hcall
      refine hcall.mono ?_
      clear hcall
      rintro e w' ⟨rfl, hb2⟩
      have ha2 := (hb2.block W.heap.size (lt_blk HA.out)).trans HA.out
      have hb3 := hb.trans (hb2.mono hb.size)
      clear HA HW hb2 hb
      generalize hn : bytesNat s.data.toList % ordL = n at *
      have hltn : n < ordL := by rw [← hn]; exact Nat.mod_lt _ (by decide)
      have HN := hid hn
      clear hn
      obtain ⟨a0, a1, a2, a3, hqq, _⟩ := quad_w4 n (by unfold ordL at hltn; omega)
      rw [hqq]
      have HQQ := hid hqq
      clear hqq
      have c0 : w'.cell? ⟨W.heap.size, 0, none⟩ = some (.int .u64 0) := cell_at ha2 0
      have c1 : w'.cell? ⟨W.heap.size, 1, none⟩ = some (.int .u64 0) := cell_at ha2 1
      have c2 : w'.cell? ⟨W.heap.size, 2, none⟩ = some (.int .u64 0) := cell_at ha2 2
      have c3 : w'.cell? ⟨W.heap.size, 3, none⟩ = some (.int .u64 0) := cell_at ha2 3
      have hf := free_at ha2
      clear ha2
      go_wp2_with fail
      refine bodyPost_ret (v := .tuple #[.agg #[.int .u64 a0, .int .u64 a1, .int .u64 a2, .int .u64 a3], .int .i64 0]) (by simp [results, Try.results7, go_sem, c0, c1, c2, c3]) rfl ⟨by rw [HN.out, HQQ.out], ?_⟩
      exact (((hb3.setCell (Nat.le_refl _) _).setCell (Nat.le_refl _) _).setCell (Nat.le_refl _) _).setCell (Nat.le_refl _) _

set_option maxHeartbeats 400000 in
theorem Of_no (s : ByteArray) (W : World) (h1 : s.size ≠ 32) (h2 : s.size ≠ 64) (hmax : s.size ≤ 9223372036854775807) :
    Calls Try.prog 7 #[.string s] W fun e w' => e = .returned (.tuple #[.agg (quad 0), .int .i64 2]) ∧ Below W.heap.size W w' := by
  have g1 : ((s.size : Int) != 32) = true := by rw [bne_iff_ne]; omega
  have g2 : ((s.size : Int) != 64) = true := by rw [bne_iff_ne]; omega
  clear h1 h2
  go_enter Try.func7, Try.ntmps7
  go_wp2_with fail
  exact bodyPost_ret (v := .tuple #[.agg (quad 0), .int .i64 2]) (by simp [results, Try.results7, go_sem, quad_zero]) rfl ⟨rfl, below_new _⟩

end Go.Proofs.Ytaencgjlneohnaa
