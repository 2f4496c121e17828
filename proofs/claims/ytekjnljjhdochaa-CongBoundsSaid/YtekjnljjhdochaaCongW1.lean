/- The walks of the congestion control, of the program and of the reference: what each call does. -/
import Derived.Test.YtekjnljjhdochaaCongP
namespace Go.Proofs.Ytekjnljjhdochaa
open Go.RowKit

set_option maxHeartbeats 400000 in
theorem within64_any (x l g : Int) (w : World) :
    Calls Try.prog 21 #[.int .u64 x, .int .u64 l, .int .u64 g] w fun e w' => e = .returned (.int .u64 (min (max x l) g)) ∧ w = w' := by
  go_enter Try.func21, Try.ntmps21
  go_wp2
  go_ret
  exact ⟨rfl, rfl⟩

set_option maxHeartbeats 400000 in
theorem within32_any (x l g : Int) (w : World) :
    Calls Try.prog 22 #[.int .u32 x, .int .u32 l, .int .u32 g] w fun e w' => e = .returned (.int .u32 (min (max x l) g)) ∧ w = w' := by
  go_enter Try.func22, Try.ntmps22
  go_wp2
  go_ret
  exact ⟨rfl, rfl⟩

set_option maxHeartbeats 400000 in
theorem less_any (x y : Int) (w : World) :
    Calls Try.prog 16 #[.int .u32 x, .int .u32 y] w fun e w' => e = .returned (.bool (lessB x y)) ∧ w = w' := by
  go_enter Try.func16, Try.ntmps16
  go_wp2
  go_ret
  refine ⟨?_, rfl⟩
  have : decide (0 < wrap32 ((y - x) % 4294967296)) = lessB x y := by
    unfold lessB wrap32; exact decide_eq_decide.2 (by omega)
  simp only [← this]; rfl

set_option maxHeartbeats 400000 in
theorem rless_any (x y : Int) (w : World) :
    Calls Try.prog 18 #[.int .u32 x, .int .u32 y] w fun e w' => e = .returned (.bool (lessB x y)) ∧ w = w' := by
  go_enter Try.func18, Try.ntmps18
  go_wp2
  all_goals (go_ret; refine ⟨?_, rfl⟩; simp only [Array.getD, lessB]; simp; try omega)

set_option maxHeartbeats 400000 in
theorem grows_any (b : Nat) (m wi n : Int) (w : World) (h0 : w.cell? ⟨b, 0, none⟩ = some (.int .u32 m)) (h1 : w.cell? ⟨b, 1, none⟩ = some (.int .u32 wi))
   (hf : w.frozen? ⟨b, 1, none⟩ = false) (hm : 0 ≤ m ∧ m ≤ 16384) (hw : 0 ≤ wi ∧ wi ≤ 1073741824) (hn : 0 ≤ n ∧ n ≤ 4294967296):
    Calls Try.prog 17 #[.pointer (some ⟨b, 0, none⟩), .int .u64 n] w fun e w' => e = .returned (.tuple #[]) ∧ (w.setCell ⟨b, 1, none⟩ (.int .u32 (min (max (wi + n) m) 1073741824))).drew = w' := by
  go_enter Try.func17, Try.ntmps17
  go_wp2_with fail
  refine still_tail 19 (by kernel_rfl) (by kernel_rfl) ?_
  simp only [List.take_succ_cons, List.take_zero, List.drop_succ_cons, List.drop_zero]
  repeat (first | (refine wpStill_step (fun K hK => ?_); go_simp; refine hK _ ?_; clear hK K; try go_ints) | (refine wpStill_step (fun K hK => ?_); go_simp; refine ⟨_, rsame (within64_any _ _ _ _), hK _ ?_⟩; clear hK K; try go_ints))
  refine wpStill_nil ?_
  go_wp2
  go_end0
  exact ⟨rfl, rfl⟩

set_option maxHeartbeats 400000 in
theorem rgrow_any (b : Nat) (wi n : Int) (w : World) (h1 : w.cell? ⟨b, 1, none⟩ = some (.int .u32 wi))
   (hf : w.frozen? ⟨b, 1, none⟩ = false) (hw : 0 ≤ wi ∧ wi ≤ 1073741824) (hn : 0 ≤ n ∧ n ≤ 4294967296):
    Calls Try.prog 19 #[.pointer (some ⟨b, 0, none⟩), .int .u64 n] w fun e w' => e = .returned (.tuple #[]) ∧ (w.setCell ⟨b, 1, none⟩ (.int .u32 (min (wi + n) 1073741824))) = w' := by
  go_enter Try.func19, Try.ntmps19
  go_wp2_with fail
  go_end0
  exact ⟨rfl, rfl⟩

set_option maxHeartbeats 400000 in
theorem half_any (b : Nat) (m fl : Int) (w : World) (h0 : w.cell? ⟨b, 0, none⟩ = some (.int .u32 m)) (hm : 0 ≤ m ∧ m ≤ 16384) (hfl : 0 ≤ fl ∧ fl ≤ 4294967295) :
    Calls Try.prog 20 #[.pointer (some ⟨b, 0, none⟩), .int .u32 fl] w fun e w' => e = .returned (.int .u32 (min (max (fl / 2) (2 * m)) 1073741824)) ∧ w = w' := by
  go_enter Try.func20, Try.ntmps20
  go_wp2_with (go_at_call 22; refine (within32_any _ _ _ _).mono ?_; rintro e w' ⟨rfl, rfl⟩)
  go_ret
  exact ⟨rfl, rfl⟩


set_option maxHeartbeats 1000000 in
theorem acked_any (b : Nat) (s : St) (ack n : Int) (W : World) (hb : W.heap[b]? = some (.cells s.enc 46 (0, 0))) (hs : s.ok) (hn : 0 ≤ n ∧ n ≤ 4294967295) :
    Calls Try.prog 10 #[.pointer (some ⟨b, 0, none⟩), .int .u32 ack, .int .u32 n] W fun e w' => e = .returned (.tuple #[]) ∧ Dr (blk W b (.cells (acked s ack n).enc 46 (0, 0))) w' := by
  obtain ⟨m, wi, l, d, f, r⟩ := s
  obtain ⟨h1, h2, h3, h4, h5, h6⟩ := hs
  simp only [St.enc] at h1 h2 h3 h4 h5 h6 hb
  have HB := hid hb
  have c0 : W.cell? ⟨b, 0, none⟩ = some (.int .u32 m) := cell_at hb 0
  have c1 : W.cell? ⟨b, 1, none⟩ = some (.int .u32 wi) := cell_at hb 1
  have c2 : W.cell? ⟨b, 2, none⟩ = some (.int .u32 l) := cell_at hb 2
  have c3 : W.cell? ⟨b, 3, none⟩ = some (.int .i64 d) := cell_at hb 3
  have c4 : W.cell? ⟨b, 4, none⟩ = some (.bool f) := cell_at hb 4
  have c5 : W.cell? ⟨b, 5, none⟩ = some (.int .u32 r) := cell_at hb 5
  have hf := free_at hb
  clear hb
  have hmm := mm_le h1 h2
  have hmw := mmw_le h1 h2 h3
  by_cases hz : n = 0
  · subst hz
    go_enter Try.func10, Try.ntmps10
    go_wp2_with fail
    refine bodyPost_ret (results_none rfl _ _ _) rfl ⟨rfl, ?_⟩
    refine dr_blk (o := .cells #[.int .u32 m, .int .u32 wi, .int .u32 l, .int .i64 d, .bool f, .int .u32 r] 46 (0, 0)) ?_ (by simp [acked, St.enc])
    rw [blk_self HB.out]; exact Dr.refl _
  · have hz' : (n == 0) = false := by simpa using hz
    cases f
    · by_cases hl : wi < l
      · have E := hid (show acked ⟨m, wi, l, d, false, r⟩ ack n = ⟨m, min (max (wi + min n m) m) 1073741824, l, 0, false, r⟩ by simp [acked, hz, hl])
        go_enter Try.func10, Try.ntmps10
        go_wp2_with fail
        go_quiet (fail)
        go_wp2_with fail
        go_quiet (fail)
        go_wp2_with fail
        all_goals
          refine (grows_any b m _ _ _ (by go_simp; try rfl) (by go_simp; try rfl) (by go_simp) ⟨by omega, h2⟩ (by omega) (by omega)).mono ?_
          rintro e w' ⟨rfl, rfl⟩
          go_wp2
          go_end0
          refine ⟨rfl, dr_blk (by simp only [setCell_blk HB.out, blk_setCell (lt_blk HB.out)]; first | exact Dr.refl _ | exact (Dr.refl _).drew | exact ((Dr.refl _).drewN _) | exact ((Dr.refl _).drewN _).drew) ?_⟩
          rw [E.out]
          simp [St.enc]
          try omega
      · have E := hid (show acked ⟨m, wi, l, d, false, r⟩ ack n = ⟨m, min (max (wi + max 1 (m * m / wi)) m) 1073741824, l, 0, false, r⟩ by simp [acked, hz, hl])
        go_enter Try.func10, Try.ntmps10
        go_wp2_with fail
        go_quiet (fail)
        go_wp2_with fail
        go_quiet (fail)
        go_wp2_with fail
        all_goals
          refine (grows_any b m _ _ _ (by go_simp; try rfl) (by go_simp; try rfl) (by go_simp) ⟨by omega, h2⟩ (by omega) (by omega)).mono ?_
          rintro e w' ⟨rfl, rfl⟩
          go_wp2
          go_end0
          refine ⟨rfl, dr_blk (by simp only [setCell_blk HB.out, blk_setCell (lt_blk HB.out)]; first | exact Dr.refl _ | exact (Dr.refl _).drew | exact ((Dr.refl _).drewN _) | exact ((Dr.refl _).drewN _).drew) ?_⟩
          rw [E.out]
          simp [St.enc]
          try omega
    · cases hl : lessB ack r
      · have E := hid (show acked ⟨m, wi, l, d, true, r⟩ ack n = ⟨m, l, l, 0, false, r⟩ by simp [acked, hz, hl])
        go_enter Try.func10, Try.ntmps10
        go_wp2_with fail
        go_quiet (fail)
        go_wp2_with (go_at_call 16; refine (less_any _ _ _).mono ?_; rintro e w' ⟨rfl, rfl⟩)
        go_end0
        refine ⟨rfl, dr_blk (by simp only [setCell_blk HB.out, blk_setCell (lt_blk HB.out)]; first | exact Dr.refl _ | exact (Dr.refl _).drew | exact ((Dr.refl _).drewN _) | exact ((Dr.refl _).drewN _).drew) ?_⟩
        rw [E.out]
        simp [St.enc]
      · have E := hid (show acked ⟨m, wi, l, d, true, r⟩ ack n = ⟨m, min (max (max m (wi - n) + m) m) 1073741824, l, 0, true, r⟩ by simp [acked, hz, hl])
        go_enter Try.func10, Try.ntmps10
        go_wp2_with fail
        go_quiet (fail)
        go_wp2_with (go_at_call 16; refine (less_any _ _ _).mono ?_; rintro e w' ⟨rfl, rfl⟩)
        all_goals
          refine (grows_any b m _ _ _ (by go_simp; try rfl) (by go_simp; try rfl) (by go_simp) ⟨by omega, h2⟩ (by omega) (by omega)).mono ?_
          rintro e w' ⟨rfl, rfl⟩
          go_wp2
          go_end0
          refine ⟨rfl, dr_blk (by simp only [setCell_blk HB.out, blk_setCell (lt_blk HB.out)]; first | exact Dr.refl _ | exact (Dr.refl _).drew | exact ((Dr.refl _).drewN _) | exact ((Dr.refl _).drewN _).drew) ?_⟩
          rw [E.out]
          simp [St.enc]
          try omega

end Go.Proofs.Ytekjnljjhdochaa
