/- The walk of Copy. -/
import Derived.Test.YtejkimhmpnogkaaDoorSumW5
import Derived.Test.YtejkimhmpnogkaaDoorBBF8
import Derived.Test.YtejkimhmpnogkaaDoorLQT
namespace Go.Proofs.YtejkimhmpnogkaaDoor
open Go.RowKit

theorem copy_nil (w : World) : Calls Tryd.prog 20 #[.pointer none] w fun e w' => e = .returned (.pointer none) ∧ w = w' := by
  go_enter Tryd.func20, Tryd.ntmps20
  go_wp2_with fail
  refine (none_nil _).mono ?_
  rintro e w' ⟨rfl, rfl⟩
  go_wp2_with fail
  go_ret
  exact ⟨rfl, rfl⟩

set_option maxRecDepth 100000 in
set_option maxHeartbeats 2000000 in
theorem copy_any {w : World} {B hb : Nat} {A : List UInt8} (h : HashAt w B hb A) (hA : A.length ≤ 274877906944) :
    Calls Tryd.prog 20 #[.pointer (some ⟨hb, 0, none⟩)] w fun e w' => e = .returned (.pointer (some ⟨w.heap.size, 0, none⟩)) ∧ HashAt w' w.heap.size w.heap.size A ∧ Below w.heap.size w w' := by
  have hm := h.made
  have hn := h.num
  have hlt := h.lt
  obtain ⟨v, o, r, hb1, hq, ho, hB1, hB2⟩ := h
  obtain ⟨q, hqq⟩ : ∃ q, A.length / 64 = q := ⟨_, rfl⟩
  rw [hqq] at hb1 hq ho
  have HQ := hid hqq
  have hat := hb1.at_
  rw [hcs_bset] at hat
  obtain ⟨c0, c1, c2, c3, c4, c5, c6, c7⟩ := vob_oct hat
  have HB1 := hid hb1
  clear hb1 hB2 hqq hat
  have hLl : (A.drop (64 * q)).length ≤ A.length := by rw [List.length_drop]; omega
  generalize hst : SM.run A q = st at *
  generalize hL0 : A.drop (64 * q) = L at *
  have HL0 := hid hL0
  clear hL0
  have HST := hid hst
  clear hst
  go_enter Tryd.func20, Tryd.ntmps20
  go_wp2_with fail
  refine (none_any hm).mono ?_
  rintro e w' ⟨rfl, rfl⟩
  go_wp2_with fail
  refine still_tail 9 (by kernel_rfl) (by kernel_rfl) ?_
  simp only [List.take_succ_cons, List.take_zero, List.drop_succ_cons, List.drop_zero]
  repeat (first | (refine wpStill_step (fun K hK => ?_); go_simp; refine hK _ ?_; clear hK K; try go_ints))
  refine wpStill_nil ?_
  go_wp2_with fail
  have hxx : #[.int .u32 (UV st.a), .int .u32 (UV st.b), .int .u32 (UV st.c), .int .u32 (UV st.d), .int .u32 (UV st.e), .int .u32 (UV st.f), .int .u32 (UV st.g), .int .u32 (UV st.h), .slice none 0 0, .int .i64 0, .int .i8 0, .int .u64 (A.length : Int), .bool true] = hcs st (.slice none 0 0) 0 0 A.length := rfl
  rw [hxx]
  have fC : (w.alloc (.cells (hcs st (.slice none 0 0) 0 0 A.length) 70)).drew.heap[w.heap.size]? = some (.cells (hcs st (.slice none 0 0) 0 0 A.length) 70 (0, 0)) := alloc_at w _
  have bC : Below w.heap.size w (w.alloc (.cells (hcs st (.slice none 0 0) 0 0 A.length) 70)).drew := (below_new _).drew
  have FC := hid fC
  have BC := hid bC
  clear c0 c1 c2 c3 c4 c5 c6 c7 hxx fC bC hm hn
  generalize (w.alloc (.cells (hcs st (.slice none 0 0) 0 0 A.length) 70)).drew = w1 at *
  have HB2 := hid (HB1.out.below BC.out)
  obtain ⟨a, ca, ha1, ha2, ha3, ha4⟩ := bbytes_fix HB2.out
  have hby : ∀ x : Later w1, Calls Tryd.prog 44 #[.pointer (some ⟨hb, 8, none⟩)] x.w' fun e w' => e = .returned (.slice a L.length ca) ∧ Below x.w'.heap.size x.w' w' := fun x =>
    (ha4 x.w' (HB2.out.below x.h)).mono fun e w' ⟨he, hd⟩ => ⟨he, Dr.below hd⟩
  have HBY := hid hby
  have HA3 := hid ha3
  clear hby ha3 ha4
  refine wp_region_later_tail 7 (by kernel_rfl) (by kernel_rfl) ?_
  simp only [List.take_succ_cons, List.take_zero, List.drop_succ_cons, List.drop_zero]
  repeat ((go_big_quiet_step ((go_at_call 44; with_reducible exact calls_later (HBY.out _)))))
  refine wpQuiet_nil ?_
  intro wL hwL
  obtain ⟨⟨w8, hL⟩, e8⟩ := hwL
  change wL = w8 at e8
  subst e8
  have FL := hid (keepB hL FC.out)
  have BL := hid (BC.out.trans (hL.mono BC.out.size))
  have hlN : w.heap.size < wL.heap.size := lt_blk FL.out
  have hbuf : BufAt wL w.heap.size 8 70 (hcs st (.slice none 0 0) 0 0 A.length) (.slice none 0 0) 0 0 [] :=
    ⟨by rw [hcs_bset]; exact FL.out, by rw [hcs_size]; decide, .inl ⟨rfl, rfl, rfl⟩, (fun e => by cases e)⟩
  have hlt2 : ∀ g, v.ownBlock = some g → g < w.heap.size := fun g hg => HB1.out.own.lt hg
  have hwr := bwrite_nil (l := L) a ca ha1 ha2 hbuf (by omega) (fun hl => by
    obtain ⟨g, o', e1, e2, e3⟩ := HA3.out hl
    exact ⟨g, o', e1, by have := hlt2 g e2; omega, fun j hj => (hL.cell (p := ⟨g, o' + j, none⟩) (World.block_lt_of_cell? w1 _ (e3 j hj))).trans (e3 j hj)⟩)
  have HWR := hid hwr
  clear hwr hbuf hL HBY HA3
  go_wp2_with fail
  refine HWR.out.mono ?_
  rintro e w3 ⟨rfl, v3, o3, r3, hb3, ho3, hO3, hn3⟩
  have R3 : HashAt w3 w.heap.size w.heap.size A := by
    refine ⟨v3, o3, r3, ?_, by rw [HQ.out]; exact hq, by omega, Nat.le_refl _, ?_⟩
    · rw [HQ.out, HST.out, HL0.out]
      have h1 := hcs_bset st (.slice none 0 0) v3 0 o3 0 r3 A.length
      exact ⟨by rw [hcs_bset, ← h1]; exact hb3.at_, by rw [hcs_size]; decide, hb3.own, hb3.ne⟩
    · intro g hg
      rcases hn3 with h1 | ⟨g2, h1, h2⟩
      · rw [h1] at hg; cases hg
      · rw [h1] at hg; injection hg with hg; subst hg; omega
  have B3 : Below w.heap.size w w3 := BL.out.trans (hO3.below (by
    rintro j (h1 | h1)
    · omega
    · cases h1) (by omega))
  have HR3 := hid R3
  have HB3 := hid B3
  clear R3 B3 hb3 hO3 hn3 HWR
  go_wp2_with fail
  go_ret
  exact ⟨rfl, HR3.out, HB3.out⟩

end Go.Proofs.YtejkimhmpnogkaaDoor
