/- The walks of Expand (all of it) and Extract. -/
import Derived.Test.YtejkimhmpnogkaaDoorHkW2
namespace Go.Proofs.YtejkimhmpnogkaaDoor
open Go.RowKit

theorem extract_any (key s : ByteArray) (W : World) (hT : Tab W) (hk : key.size ≤ 68719476736) (hs : s.size ≤ 68719476736) :
    Calls Tryd.prog 27 #[.string key, .string s] W fun e w' => e = .returned (.string ⟨(SM.tag key.data.toList s.data.toList).toArray⟩) ∧ Below W.heap.size W w' := by
  have h := hid (tag_any key s W hT hk hs)
  clear hT
  go_enter Tryd.func27, Tryd.ntmps27
  go_wp2_with fail
  refine h.out.mono ?_
  clear h
  rintro e w' ⟨rfl, hb⟩
  go_wp2_with fail
  go_ret
  exact ⟨rfl, hb⟩

set_option maxHeartbeats 1000000 in
theorem expand_no (key info : ByteArray) (n : Int) (W : World) (h : n < 0 ∨ 8160 < n) :
    Calls Tryd.prog 25 #[.string key, .string info, .int .i64 n] W fun e w' => e = .returned (.tuple #[.string ⟨#[]⟩, .int .i64 2]) ∧ Below W.heap.size W w' := by
  have B := hid (below_new (w := W) (.cells #[.int .i64 n] 3))
  by_cases hn : n < 0
  · have d0 : decide (n < 0) = true := decide_eq_true hn
    go_enter Tryd.func25, Tryd.ntmps25
    go_wp2_with fail
    go_ret2
    exact ⟨rfl, B.out⟩
  · have d0 : decide (n < 0) = false := decide_eq_false hn
    have d1 : decide (n > 8160) = true := decide_eq_true (by omega)
    go_enter Tryd.func25, Tryd.ntmps25
    go_wp2_with fail
    go_ret2
    exact ⟨rfl, B.out⟩

set_option maxHeartbeats 2000000 in
set_option maxRecDepth 100000 in
theorem bstring_nil (b : Nat) (p : Value) (w : World) (h : w.heap[b]? = some (.cells #[p, .slice none 0 0] 83 (0, 0))) :
    Calls Tryd.prog 52 #[.pointer (some ⟨b, 0, none⟩)] w fun e w' => e = .returned (.string ⟨#[]⟩) ∧ w' = w.drew := by
  have c1 : w.drew.cell? ⟨b, 1, none⟩ = some (.slice none 0 0) := by
    have : w.drew.heap[b]? = some (.cells #[p, .slice none 0 0] 83 (0, 0)) := h
    rw [Lib.cell_of_heap this]; rfl
  have hSD : (Builtin.unsafeSliceData_ #[57] 106 #[.slice none 0 0]).run Tryd.prog w.drew = .ok (.pointer none) w.drew := rfl
  have hUS : (Builtin.unsafeString_ #[106, 3] 9 #[.pointer none, .int .i64 0]).run Tryd.prog w.drew = .ok (.string .empty) w.drew := Lib.run_unsafeString_none w.drew _ _ _ none
  clear h
  go_enter Tryd.func52, Tryd.ntmps52
  go_wp2_with fail
  refine still_tail 10 (by kernel_rfl) (by kernel_rfl) ?_
  simp only [List.take_succ_cons, List.take_zero, List.drop_succ_cons, List.drop_zero]
  repeat (first | (refine wpStill_step (fun K hK => ?_); go_simp; refine hK _ ?_; clear hK K; try go_ints))
  refine wpStill_nil ?_
  go_wp2_with fail
  go_ret
  exact ⟨rfl, rfl⟩

set_option maxHeartbeats 2000000 in
set_option maxRecDepth 100000 in
theorem expand_zero (key info : ByteArray) (W : World) :
    Calls Tryd.prog 25 #[.string key, .string info, .int .i64 0] W fun e w' => e = .returned (.tuple #[.string ⟨#[]⟩, .int .i64 0]) ∧ Below W.heap.size W w' := by
  have b2 := alloc_at (W.alloc (.cells #[.int .i64 0] 3)) (.cells #[.pointer none, .slice none 0 0] 83)
  have b1 := alloc_old (o' := (.cells #[.pointer none, .slice none 0 0] 83)) (alloc_at W (.cells #[.int .i64 0] 3))
  have B := hid (below_alloc (below_new (w := W) (.cells #[.int .i64 0] 3)) (.cells #[.pointer none, .slice none 0 0] 83))
  simp only [World.size_alloc] at b2
  obtain ⟨w2, hw2⟩ : ∃ w2, (W.alloc (.cells #[.int .i64 0] 3)).alloc (.cells #[.pointer none, .slice none 0 0] 83) = w2 := ⟨_, rfl⟩
  rw [hw2] at b1 b2 B
  have cn := cell_at b1 0
  have hst := hid (bstring_nil (W.heap.size + 1) (.pointer none) w2.drew b2)
  have HW := hid hw2
  clear b1 b2 hw2
  have d0 : decide ((0 : Int) < 0) = false := rfl
  go_enter Tryd.func25, Tryd.ntmps25
  go_wp2_with fail
  rw [HW.out]
  refine wp_region_two (by rfl) (by kernel_rfl) (by kernel_rfl) (by kernel_rfl) (by kernel_rfl) ?_ ?_
  · go_wp2_with fail
    refine hst.out.mono ?_
    rintro e w' ⟨rfl, rfl⟩
    go_wp2_with fail
    go_ret2
    exact ⟨rfl, B.out.drew.drew⟩
  · go_wp2_with fail
    refine hst.out.mono ?_
    rintro e w' ⟨rfl, rfl⟩
    go_wp2_with fail
    go_ret2
    exact ⟨rfl, B.out.drew.drew⟩

theorem expand_yes (key info : ByteArray) (N : Nat) (W : World) (hT : Tab W) (hk : key.size ≤ 68719476736) (hi : info.size ≤ 34359738368) (hN : N ≤ 8160) :
    Calls Tryd.prog 25 #[.string key, .string info, .int .i64 (N : Int)] W fun e w' => e = .returned (.tuple #[.string ⟨(HK.expand key.data.toList info.data.toList N).toArray⟩, .int .i64 0]) ∧ Below W.heap.size W w' := by
  cases N with
  | zero => exact expand_zero key info W
  | succ N => exact expand_pos key info (N + 1) W hT hk hi (by omega) hN

end Go.Proofs.YtejkimhmpnogkaaDoor
