/- The walks of the congestion control, of the program and of the reference: what each call does. -/
import Derived.Test.YtekjnljjhdochaaCongW2
namespace Go.Proofs.Ytekjnljjhdochaa
open Go.RowKit

set_option maxHeartbeats 400000 in
theorem state_any (b : Nat) (s : St) (W : World) (hb : W.heap[b]? = some (.cells s.enc 46 (0, 0))) :
    Calls Try.prog 9 #[.pointer (some ⟨b, 0, none⟩)] W fun e w' => e = .returned (.agg #[.int .u32 s.w, .int .u32 s.l, .int .i64 s.d, .bool s.f, .int .u32 s.r]) ∧ ∃ o, W.alloc o = w' := by
  obtain ⟨m, wi, l, d, f, r⟩ := s
  simp only [St.enc] at hb
  have c1 : W.cell? ⟨b, 1, none⟩ = some (.int .u32 wi) := cell_at hb 1
  have c2 : W.cell? ⟨b, 2, none⟩ = some (.int .u32 l) := cell_at hb 2
  have c3 : W.cell? ⟨b, 3, none⟩ = some (.int .i64 d) := cell_at hb 3
  have c4 : W.cell? ⟨b, 4, none⟩ = some (.bool f) := cell_at hb 4
  have c5 : W.cell? ⟨b, 5, none⟩ = some (.int .u32 r) := cell_at hb 5
  have hl := lt_blk hb
  clear hb
  go_enter Try.func9, Try.ntmps9
  go_wp2
  exact bodyPost_ret (v := .agg #[.int .u32 wi, .int .u32 l, .int .i64 d, .bool f, .int .u32 r]) (by simp [results, Try.results9, go_sem]) rfl ⟨rfl, _, rfl⟩

set_option maxHeartbeats 400000 in
theorem new_any (m : Int) (W : World) (h1 : 1 ≤ m) (h2 : m ≤ 16384) :
    Calls Try.prog 7 #[.int .u32 m] W fun e w' => e = .returned (.tuple #[.pointer (some ⟨W.heap.size, 0, none⟩), .int .i64 0]) ∧ W.alloc (.cells (fresh m).enc 46) = w' := by
  have E := hid (show (fresh m).enc = #[.int .u32 m, .int .u32 ((if m ≤ 1095 then 4 else if m ≤ 2190 then 3 else 2) * m), .int .u32 1073741824, .int .i64 0, .bool false, .int .u32 0] from rfl)
  by_cases ha : m ≤ 1095
  · go_enter Try.func7, Try.ntmps7
    go_wp2
    go_ret2
    exact ⟨rfl, by rw [E.out, if_pos ha]⟩
  · by_cases hb : m ≤ 2190
    · go_enter Try.func7, Try.ntmps7
      go_wp2
      go_ret2
      exact ⟨rfl, by rw [E.out, if_neg (by omega), if_pos hb]⟩
    · go_enter Try.func7, Try.ntmps7
      go_wp2
      go_ret2
      exact ⟨rfl, by rw [E.out, if_neg (by omega), if_neg (by omega)]⟩

set_option maxHeartbeats 400000 in
theorem new_no (m : Int) (W : World) (h : m < 1 ∨ 16384 < m) :
    Calls Try.prog 7 #[.int .u32 m] W fun e w' => e = .returned (.tuple #[.pointer none, .int .i64 2]) ∧ W = w' := by
  rcases h with h | h
  all_goals
    go_enter Try.func7, Try.ntmps7
    go_wp2
    go_ret2
    exact ⟨rfl, rfl⟩

set_option maxHeartbeats 400000 in
theorem rnew_any (m : Int) (W : World) (h1 : 1 ≤ m) (h2 : m ≤ 16384) :
    Calls Try.prog 8 #[.int .u32 m] W fun e w' => e = .returned (.pointer (some ⟨W.heap.size, 0, none⟩)) ∧ W.alloc (.cells (fresh m).enc 35) = w' := by
  have E := hid (show (fresh m).enc = #[.int .u32 m, .int .u32 ((if m ≤ 1095 then 4 else if m ≤ 2190 then 3 else 2) * m), .int .u32 1073741824, .int .i64 0, .bool false, .int .u32 0] from rfl)
  by_cases ha : m ≤ 1095
  · go_enter Try.func8, Try.ntmps8
    go_wp2
    go_ret
    exact ⟨rfl, by rw [E.out, if_pos ha]⟩
  · by_cases hb : m ≤ 2190
    · go_enter Try.func8, Try.ntmps8
      go_wp2
      go_ret
      exact ⟨rfl, by rw [E.out, if_neg (by omega), if_pos hb]⟩
    · go_enter Try.func8, Try.ntmps8
      go_wp2
      go_ret
      exact ⟨rfl, by rw [E.out, if_neg (by omega), if_neg (by omega)]⟩

set_option maxHeartbeats 400000 in
theorem rnew_no (m : Int) (W : World) (h : m < 1 ∨ 16384 < m) :
    Calls Try.prog 8 #[.int .u32 m] W fun e w' => e = .returned (.pointer none) ∧ W = w' := by
  rcases h with h | h
  all_goals
    go_enter Try.func8, Try.ntmps8
    go_wp2
    go_ret
    exact ⟨rfl, rfl⟩

set_option maxHeartbeats 1000000 in
theorem dup_any (b : Nat) (s : St) (fl next : Int) (W : World) (hb : W.heap[b]? = some (.cells s.enc 46 (0, 0))) (hs : s.ok) (hfl : 0 ≤ fl ∧ fl ≤ 4294967295) :
    Calls Try.prog 12 #[.pointer (some ⟨b, 0, none⟩), .int .u32 fl, .int .u32 next] W fun e w' => e = .returned (.bool (dupped s fl next).2) ∧ Dr (blk W b (.cells (dupped s fl next).1.enc 46 (0, 0))) w' := by
  obtain ⟨m, wi, l, d, f, r⟩ := s
  obtain ⟨h1, h2, h3, h4, h5, h6⟩ := hs
  simp only [St.enc] at h1 h2 h3 h4 h5 h6 hb
  have HB := hid hb
  have c0 : W.cell? ⟨b, 0, none⟩ = some (.int .u32 m) := cell_at hb 0
  have c1 : W.cell? ⟨b, 1, none⟩ = some (.int .u32 wi) := cell_at hb 1
  have c2 : W.cell? ⟨b, 2, none⟩ = some (.int .u32 l) := cell_at hb 2
  have c3 : W.cell? ⟨b, 3, none⟩ = some (.int .i64 d) := cell_at hb 3
  have c4 : W.cell? ⟨b, 4, none⟩ = some (.bool f) := cell_at hb 4
  have c5 : W.cell? ⟨b, 5, none⟩ = some (.int .u32 r) := cell_at hb 5
  have hf := free_at hb
  clear hb
  cases f
  · by_cases hd : wrap64 (d + 1) = 3
    · have E := hid (show dupped ⟨m, wi, l, d, false, r⟩ fl next = (⟨m, min (max (half ⟨m, wi, l, d, false, r⟩ fl + 3 * m) 0) 1073741824, half ⟨m, wi, l, d, false, r⟩ fl, wrap64 (d + 1), true, next⟩, true) by simp [dupped, hd])
      have hd' : (wrap64 (d + 1) == 3) = true := beq_iff_eq.2 hd
      have hd'' : (wrap64 (d + 1) != 3) = false := by simp [hd]
      clear hd
      go_enter Try.func12, Try.ntmps12
      go_wp2_with fail
      refine (half_any b m fl _ (by go_simp) ⟨by omega, by omega⟩ hfl).mono ?_
      rintro e w' ⟨rfl, rfl⟩
      go_wp2_with fail
      refine still_tail 22 (by kernel_rfl) (by kernel_rfl) ?_
      simp only [List.take_succ_cons, List.take_zero, List.drop_succ_cons, List.drop_zero]
      repeat (first | (refine wpStill_step (fun K hK => ?_); go_simp; refine hK _ ?_; clear hK K; try go_ints) | (refine wpStill_step (fun K hK => ?_); go_simp; refine ⟨_, rsame (within64_any _ _ _ _), hK _ ?_⟩; clear hK K; try go_ints))
      refine wpStill_nil ?_
      go_wp2
      go_ret
      refine ⟨by rw [E.out]; rfl, ?_⟩
      refine dr_blk (by simp only [setCell_blk HB.out, blk_setCell (lt_blk HB.out)]; first | exact Dr.refl _ | exact (Dr.refl _).drew | exact ((Dr.refl _).drewN _) | exact ((Dr.refl _).drewN _).drew) ?_
      rw [E.out]
      simp [St.enc, half]
    · have E := hid (show dupped ⟨m, wi, l, d, false, r⟩ fl next = (⟨m, wi, l, wrap64 (d + 1), false, r⟩, false) by simp [dupped, hd])
      have hd' : (wrap64 (d + 1) == 3) = false := beq_eq_false_iff_ne.2 hd
      have hd'' : (wrap64 (d + 1) != 3) = true := by simp [hd]
      clear hd
      go_enter Try.func12, Try.ntmps12
      go_wp2_with fail
      go_ret
      refine ⟨by rw [E.out]; rfl, ?_⟩
      refine dr_blk (by simp only [setCell_blk HB.out, blk_setCell (lt_blk HB.out)]; first | exact Dr.refl _ | exact (Dr.refl _).drew | exact ((Dr.refl _).drewN _) | exact ((Dr.refl _).drewN _).drew) ?_
      rw [E.out]
      simp [St.enc, half]
  · have E := hid (show dupped ⟨m, wi, l, d, true, r⟩ fl next = (⟨m, min (max (wi + m) m) 1073741824, l, wrap64 (d + 1), true, r⟩, false) by simp [dupped])
    go_enter Try.func12, Try.ntmps12
    go_wp2_with fail
    refine (grows_any b m _ _ _ (by go_simp; try rfl) (by go_simp; try rfl) (by go_simp) ⟨by omega, h2⟩ (by omega) (by omega)).mono ?_
    rintro e w' ⟨rfl, rfl⟩
    go_wp2
    go_ret
    refine ⟨by rw [E.out]; rfl, ?_⟩
    refine dr_blk (by simp only [setCell_blk HB.out, blk_setCell (lt_blk HB.out)]; first | exact Dr.refl _ | exact (Dr.refl _).drew | exact ((Dr.refl _).drewN _) | exact ((Dr.refl _).drewN _).drew) ?_
    rw [E.out]
    simp [St.enc, half]

set_option maxHeartbeats 1000000 in
theorem rdup_any (b : Nat) (s : St) (fl next : Int) (W : World) (hb : W.heap[b]? = some (.cells s.enc 35 (0, 0))) (hs : s.ok) (hfl : 0 ≤ fl ∧ fl ≤ 4294967295) :
    Calls Try.prog 13 #[.pointer (some ⟨b, 0, none⟩), .int .u32 fl, .int .u32 next] W fun e w' => e = .returned (.bool (dupped s fl next).2) ∧ Dr (blk W b (.cells (dupped s fl next).1.enc 35 (0, 0))) w' := by
  obtain ⟨m, wi, l, d, f, r⟩ := s
  obtain ⟨h1, h2, h3, h4, h5, h6⟩ := hs
  simp only [St.enc] at h1 h2 h3 h4 h5 h6 hb
  have HB := hid hb
  have c0 : W.cell? ⟨b, 0, none⟩ = some (.int .u32 m) := cell_at hb 0
  have c1 : W.cell? ⟨b, 1, none⟩ = some (.int .u32 wi) := cell_at hb 1
  have c2 : W.cell? ⟨b, 2, none⟩ = some (.int .u32 l) := cell_at hb 2
  have c3 : W.cell? ⟨b, 3, none⟩ = some (.int .i64 d) := cell_at hb 3
  have c4 : W.cell? ⟨b, 4, none⟩ = some (.bool f) := cell_at hb 4
  have c5 : W.cell? ⟨b, 5, none⟩ = some (.int .u32 r) := cell_at hb 5
  have hf := free_at hb
  clear hb
  cases f
  · by_cases hd : wrap64 (d + 1) = 3
    · have E := hid (show dupped ⟨m, wi, l, d, false, r⟩ fl next = (⟨m, min (max (half ⟨m, wi, l, d, false, r⟩ fl + 3 * m) 0) 1073741824, half ⟨m, wi, l, d, false, r⟩ fl, wrap64 (d + 1), true, next⟩, true) by simp [dupped, hd])
      have hd' : (wrap64 (d + 1) == 3) = true := beq_iff_eq.2 hd
      have hd'' : (wrap64 (d + 1) != 3) = false := by simp [hd]
      clear hd
      go_enter Try.func13, Try.ntmps13
      go_wp2_with fail
      refine still_tail 19 (by kernel_rfl) (by kernel_rfl) ?_
      simp only [List.take_succ_cons, List.take_zero, List.drop_succ_cons, List.drop_zero]
      repeat (first | (refine wpStill_step (fun K hK => ?_); go_simp; refine hK _ ?_; clear hK K; try go_ints))
      refine wpStill_nil ?_
      go_wp2
      go_ret
      refine ⟨by rw [E.out]; rfl, ?_⟩
      refine dr_blk (by simp only [setCell_blk HB.out, blk_setCell (lt_blk HB.out)]; first | exact Dr.refl _ | exact (Dr.refl _).drew | exact ((Dr.refl _).drewN _) | exact ((Dr.refl _).drewN _).drew) ?_
      rw [E.out]
      simp [St.enc, half]
      omega
    · have E := hid (show dupped ⟨m, wi, l, d, false, r⟩ fl next = (⟨m, wi, l, wrap64 (d + 1), false, r⟩, false) by simp [dupped, hd])
      have hd' : (wrap64 (d + 1) == 3) = false := beq_eq_false_iff_ne.2 hd
      have hd'' : (wrap64 (d + 1) != 3) = true := by simp [hd]
      clear hd
      go_enter Try.func13, Try.ntmps13
      go_wp2_with fail
      go_ret
      refine ⟨by rw [E.out]; rfl, ?_⟩
      refine dr_blk (by simp only [setCell_blk HB.out, blk_setCell (lt_blk HB.out)]; first | exact Dr.refl _ | exact (Dr.refl _).drew | exact ((Dr.refl _).drewN _) | exact ((Dr.refl _).drewN _).drew) ?_
      rw [E.out]
      simp [St.enc, half]
  · have E := hid (show dupped ⟨m, wi, l, d, true, r⟩ fl next = (⟨m, min (max (wi + m) m) 1073741824, l, wrap64 (d + 1), true, r⟩, false) by simp [dupped])
    go_enter Try.func13, Try.ntmps13
    go_wp2_with fail
    refine (rgrow_any b _ _ _ (by go_simp; try rfl) (by go_simp) (by omega) (by omega)).mono ?_
    rintro e w' ⟨rfl, rfl⟩
    go_wp2
    go_ret
    refine ⟨by rw [E.out]; rfl, ?_⟩
    refine dr_blk (by simp only [setCell_blk HB.out, blk_setCell (lt_blk HB.out)]; first | exact Dr.refl _ | exact (Dr.refl _).drew | exact ((Dr.refl _).drewN _) | exact ((Dr.refl _).drewN _).drew) ?_
    rw [E.out]
    simp [St.enc, half]
    omega

set_option maxHeartbeats 1000000 in
theorem tout_any (b : Nat) (s : St) (fl : Int) (W : World) (hb : W.heap[b]? = some (.cells s.enc 46 (0, 0))) (hs : s.ok) (hfl : 0 ≤ fl ∧ fl ≤ 4294967295) :
    Calls Try.prog 14 #[.pointer (some ⟨b, 0, none⟩), .int .u32 fl] W fun e w' => e = .returned (.tuple #[]) ∧ Dr (blk W b (.cells (timed s fl).enc 46 (0, 0))) w' := by
  obtain ⟨m, wi, l, d, f, r⟩ := s
  obtain ⟨h1, h2, h3, h4, h5, h6⟩ := hs
  simp only [St.enc] at h1 h2 h3 h4 h5 h6 hb
  have HB := hid hb
  have c0 : W.cell? ⟨b, 0, none⟩ = some (.int .u32 m) := cell_at hb 0
  have c1 : W.cell? ⟨b, 1, none⟩ = some (.int .u32 wi) := cell_at hb 1
  have c2 : W.cell? ⟨b, 2, none⟩ = some (.int .u32 l) := cell_at hb 2
  have c3 : W.cell? ⟨b, 3, none⟩ = some (.int .i64 d) := cell_at hb 3
  have c4 : W.cell? ⟨b, 4, none⟩ = some (.bool f) := cell_at hb 4
  have c5 : W.cell? ⟨b, 5, none⟩ = some (.int .u32 r) := cell_at hb 5
  have hf := free_at hb
  clear hb
  have E := hid (show timed ⟨m, wi, l, d, f, r⟩ fl = ⟨m, m, half ⟨m, wi, l, d, f, r⟩ fl, 0, false, r⟩ from rfl)
  go_enter Try.func14, Try.ntmps14
  go_wp2_with fail
  refine still_tail 16 (by kernel_rfl) (by kernel_rfl) ?_
  simp only [List.take_succ_cons, List.take_zero, List.drop_succ_cons, List.drop_zero]
  repeat (first | (refine wpStill_step (fun K hK => ?_); go_simp; refine hK _ ?_; clear hK K; try go_ints) | (refine wpStill_step (fun K hK => ?_); go_simp; refine ⟨_, rsame (half_any b m fl _ (by go_simp) ⟨by omega, by omega⟩ hfl), hK _ ?_⟩; clear hK K; try go_ints))
  refine wpStill_nil ?_
  go_wp2
  go_end0
  refine ⟨rfl, ?_⟩
  refine dr_blk (by simp only [setCell_blk HB.out, blk_setCell (lt_blk HB.out)]; first | exact Dr.refl _ | exact (Dr.refl _).drew | exact ((Dr.refl _).drewN _) | exact ((Dr.refl _).drewN _).drew) ?_
  rw [E.out]
  simp [St.enc, half]

set_option maxHeartbeats 1000000 in
theorem rtout_any (b : Nat) (s : St) (fl : Int) (W : World) (hb : W.heap[b]? = some (.cells s.enc 35 (0, 0))) (hs : s.ok) (hfl : 0 ≤ fl ∧ fl ≤ 4294967295) :
    Calls Try.prog 15 #[.pointer (some ⟨b, 0, none⟩), .int .u32 fl] W fun e w' => e = .returned (.tuple #[]) ∧ Dr (blk W b (.cells (timed s fl).enc 35 (0, 0))) w' := by
  obtain ⟨m, wi, l, d, f, r⟩ := s
  obtain ⟨h1, h2, h3, h4, h5, h6⟩ := hs
  simp only [St.enc] at h1 h2 h3 h4 h5 h6 hb
  have HB := hid hb
  have c0 : W.cell? ⟨b, 0, none⟩ = some (.int .u32 m) := cell_at hb 0
  have c1 : W.cell? ⟨b, 1, none⟩ = some (.int .u32 wi) := cell_at hb 1
  have c2 : W.cell? ⟨b, 2, none⟩ = some (.int .u32 l) := cell_at hb 2
  have c3 : W.cell? ⟨b, 3, none⟩ = some (.int .i64 d) := cell_at hb 3
  have c4 : W.cell? ⟨b, 4, none⟩ = some (.bool f) := cell_at hb 4
  have c5 : W.cell? ⟨b, 5, none⟩ = some (.int .u32 r) := cell_at hb 5
  have hf := free_at hb
  clear hb
  have E := hid (show timed ⟨m, wi, l, d, f, r⟩ fl = ⟨m, m, half ⟨m, wi, l, d, f, r⟩ fl, 0, false, r⟩ from rfl)
  go_enter Try.func15, Try.ntmps15
  go_wp2_with fail
  go_end0
  refine ⟨rfl, ?_⟩
  refine dr_blk (by simp only [setCell_blk HB.out, blk_setCell (lt_blk HB.out)]; first | exact Dr.refl _ | exact (Dr.refl _).drew | exact ((Dr.refl _).drewN _) | exact ((Dr.refl _).drewN _).drew) ?_
  rw [E.out]
  simp [St.enc, half]

end Go.Proofs.Ytekjnljjhdochaa
