/- The walks of the congestion control, of the program and of the reference: what each call does. -/
import Derived.Test.YtekjnljjhdochaaCongW1
namespace Go.Proofs.Ytekjnljjhdochaa
open Go.RowKit

set_option maxHeartbeats 1000000 in
theorem racked_any (b : Nat) (s : St) (ack n : Int) (W : World) (hb : W.heap[b]? = some (.cells s.enc 35 (0, 0))) (hs : s.ok) (hn : 0 ≤ n ∧ n ≤ 4294967295) :
    Calls Try.prog 11 #[.pointer (some ⟨b, 0, none⟩), .int .u32 ack, .int .u32 n] W fun e w' => e = .returned (.tuple #[]) ∧ Dr (blk W b (.cells (acked s ack n).enc 35 (0, 0))) w' := by
  obtain ⟨m, wi, l, d, f, r⟩ := s
  obtain ⟨h1, h2, h3, h4, h5, h6⟩ := hs
  simp only [St.enc] at h1 h2 h3 h4 h5 h6 hb
  have HB := hid hb
  have c0 : W.cell? ⟨b, 0, none⟩ = some (.int .u32 m) := cell_at hb 0
  have c1 : W.cell? ⟨b, 1, none⟩ = some (.int .u32 wi) := cell_at hb 1
  have c2 : W.cell? ⟨b, 2, none⟩ = some (.int .u32 l) := cell_at hb 2
  have c3 : W.cell? ⟨b, 3, none⟩ = some (.int .i64 d) := cell_at hb 3
  have c4 : W.cell? ⟨b, 4, none⟩ = some (.bool f) := cell_at hb 4
  have c5 : W.cell? ⟨b, 5, none⟩ = some (.int .u32 r) := cell_at hb 5
  have hf := free_at hb
  clear hb
  have hmm := mm_le h1 h2
  have hmw := mmw_le h1 h2 h3
  have hw0 : ¬ wi = 0 := by omega
  by_cases hz : n = 0
  · subst hz
    go_enter Try.func11, Try.ntmps11
    go_wp2_with fail
    refine bodyPost_ret (results_none rfl _ _ _) rfl ⟨rfl, ?_⟩
    refine dr_blk (o := .cells #[.int .u32 m, .int .u32 wi, .int .u32 l, .int .i64 d, .bool f, .int .u32 r] 35 (0, 0)) ?_ (by simp [acked, St.enc])
    rw [blk_self HB.out]; exact Dr.refl _
  · have hz' : (n == 0) = false := by simpa using hz
    cases f
    · by_cases hl : wi < l
      · have E := hid (show acked ⟨m, wi, l, d, false, r⟩ ack n = ⟨m, min (max (wi + min n m) m) 1073741824, l, 0, false, r⟩ by simp [acked, hz, hl])
        go_enter Try.func11, Try.ntmps11
        go_wp2_with fail
        go_quiet (fail)
        go_wp2_with fail
        all_goals
          refine (rgrow_any b _ _ _ (by go_simp; try rfl) (by go_simp) (by omega) (by omega)).mono ?_
          rintro e w' ⟨rfl, rfl⟩
          go_wp2
          first | go_end0 | refine bodyPost_ret (results_none rfl _ _ _) rfl ?_
          refine ⟨rfl, dr_blk (by simp only [setCell_blk HB.out, blk_setCell (lt_blk HB.out)]; first | exact Dr.refl _ | exact (Dr.refl _).drew | exact ((Dr.refl _).drewN _) | exact ((Dr.refl _).drewN _).drew) ?_⟩
          rw [E.out]
          simp [St.enc]
          try omega
      · have E := hid (show acked ⟨m, wi, l, d, false, r⟩ ack n = ⟨m, min (max (wi + max 1 (m * m / wi)) m) 1073741824, l, 0, false, r⟩ by simp [acked, hz, hl])
        go_enter Try.func11, Try.ntmps11
        go_wp2_with fail
        go_quiet (fail)
        go_wp2_with fail
        refine still_tail 20 (by kernel_rfl) (by kernel_rfl) ?_
        simp only [List.take_succ_cons, List.take_zero, List.drop_succ_cons, List.drop_zero]
        repeat (first | (refine wpStill_step (fun K hK => ?_); go_simp; refine hK _ ?_; clear hK K; try go_ints))
        refine wpStill_nil ?_
        go_wp2_with fail
        refine (rgrow_any b _ _ _ (by go_simp; try rfl) (by go_simp) (by omega) (by omega)).mono ?_
        rintro e w' ⟨rfl, rfl⟩
        go_wp2
        first | go_end0 | refine bodyPost_ret (results_none rfl _ _ _) rfl ?_
        refine ⟨rfl, dr_blk (by simp only [setCell_blk HB.out, blk_setCell (lt_blk HB.out)]; first | exact Dr.refl _ | exact (Dr.refl _).drew | exact ((Dr.refl _).drewN _) | exact ((Dr.refl _).drewN _).drew) ?_⟩
        rw [E.out]
        simp [St.enc]
        try omega
    · cases hl : lessB ack r
      · have E := hid (show acked ⟨m, wi, l, d, true, r⟩ ack n = ⟨m, l, l, 0, false, r⟩ by simp [acked, hz, hl])
        go_enter Try.func11, Try.ntmps11
        go_wp2_with (go_at_call 18; refine (rless_any _ _ _).mono ?_; rintro e w' ⟨rfl, rfl⟩)
        refine bodyPost_ret (results_none rfl _ _ _) rfl ?_
        refine ⟨rfl, dr_blk (by simp only [setCell_blk HB.out, blk_setCell (lt_blk HB.out)]; first | exact Dr.refl _ | exact (Dr.refl _).drew | exact ((Dr.refl _).drewN _) | exact ((Dr.refl _).drewN _).drew) ?_⟩
        rw [E.out]
        simp [St.enc]
        try omega
      · have E := hid (show acked ⟨m, wi, l, d, true, r⟩ ack n = ⟨m, min (max (max m (wi - n) + m) m) 1073741824, l, 0, true, r⟩ by simp [acked, hz, hl])
        by_cases hg : n < wi
        · go_enter Try.func11, Try.ntmps11
          go_wp2_with (go_at_call 18; refine (rless_any _ _ _).mono ?_; rintro e w' ⟨rfl, rfl⟩)
          refine still_tail 16 (by kernel_rfl) (by kernel_rfl) ?_
          simp only [List.take_succ_cons, List.take_zero, List.drop_succ_cons, List.drop_zero]
          repeat (first | (refine wpStill_step (fun K hK => ?_); go_simp; refine hK _ ?_; clear hK K; try go_ints))
          refine wpStill_nil ?_
          go_wp2_with fail
          refine (rgrow_any b _ _ _ (by go_simp; try rfl) (by go_simp) (by omega) (by omega)).mono ?_
          rintro e w' ⟨rfl, rfl⟩
          go_wp2
          first | go_end0 | refine bodyPost_ret (results_none rfl _ _ _) rfl ?_
          refine ⟨rfl, dr_blk (by simp only [setCell_blk HB.out, blk_setCell (lt_blk HB.out)]; first | exact Dr.refl _ | exact (Dr.refl _).drew | exact ((Dr.refl _).drewN _) | exact ((Dr.refl _).drewN _).drew) ?_⟩
          rw [E.out]
          simp [St.enc]
          try omega
        · go_enter Try.func11, Try.ntmps11
          go_wp2_with (go_at_call 18; refine (rless_any _ _ _).mono ?_; rintro e w' ⟨rfl, rfl⟩)
          refine (rgrow_any b _ _ _ (by go_simp; try rfl) (by go_simp) (by omega) (by omega)).mono ?_
          rintro e w' ⟨rfl, rfl⟩
          go_wp2
          first | go_end0 | refine bodyPost_ret (results_none rfl _ _ _) rfl ?_
          refine ⟨rfl, dr_blk (by simp only [setCell_blk HB.out, blk_setCell (lt_blk HB.out)]; first | exact Dr.refl _ | exact (Dr.refl _).drew | exact ((Dr.refl _).drewN _) | exact ((Dr.refl _).drewN _).drew) ?_⟩
          rw [E.out]
          simp [St.enc]
          try omega

end Go.Proofs.Ytekjnljjhdochaa
