/- The queue's inner functions: free, moves. -/
import Derived.Test.YtkmkgfgppblleaaFlowW1
namespace Go.Proofs.Ytkmkgfgppblleaa
open Go.RowKit FL

theorem key_wf {x : Int} (h : (Lit.int .u32 x).wf = true) : ∃ y : Nat, x = (y : Int) ∧ y < 4294967296 := by
  have h0 : 0 ≤ x ∧ x < 4294967296 := by
    simp [Lit.wf, IntKind.min, IntKind.max, IntKind.signed, IntKind.bits] at h
    omega
  obtain ⟨y, rfl⟩ := Int.eq_ofNat_of_zero_le h0.1
  exact ⟨y, rfl, by omega⟩
/-- The number that stands so far behind. -/
def at' (n i : Nat) : Nat := (n + i) % 4294967296
theorem ofs_at {n i : Nat} (hn : n < 4294967296) (hi : i < 4294967296) : ofs (at' n i) n = i := by unfold at'; unfold ofs; omega
theorem at_lt (n i : Nat) : at' n i < 4294967296 := Nat.mod_lt _ (by decide)

section
variable {w : World} {P M : Nat} {rv : Value} {en : Int} {s : FS}
set_option maxHeartbeats 1000000 in
theorem free_any (hq : QAt w P M rv en s) (hs : Inv s) (e : Nat) (he : e < 4294967296) : Calls Try.prog 27 #[.pointer (some ⟨P, 0, none⟩), .int .u32 (e : Int)] w fun r w' => r = .returned (.bool ((s.held.drop (ofs e s.next)).all Option.isNone)) ∧ Below w.heap.size w w' := by
  have gP := hq.cells
  have cP0 : w.cell? ⟨P, 0, none⟩ = some (.int .u32 (s.next : Int)) := cell_at gP 0
  have cP1 : w.cell? ⟨P, 1, none⟩ = some (.int .i64 (s.size : Int)) := cell_at gP 1
  have cP2 : w.cell? ⟨P, 2, none⟩ = some rv := cell_at gP 2
  have cP3 : w.cell? ⟨P, 3, none⟩ = some (.map (some M)) := cell_at gP 3
  have cP4 : w.cell? ⟨P, 4, none⟩ = some (.bool s.hasEnd) := cell_at gP 4
  have cP5 : w.cell? ⟨P, 5, none⟩ = some (.int .u32 en) := cell_at gP 5
  have cP6 : w.cell? ⟨P, 6, none⟩ = some (.bool s.ended) := cell_at gP 6
  have fP := free_at gP
  obtain ⟨D, hown, hD⟩ := hq.own
  have hnx := hs.next
  have h1 := ofs_int e s.next hnx
  have hPw := hget_lt gP
  have HQ := hid hq
  have HS := hid hs
  clear hq hs
  go_enter Try.func27, Try.ntmps27
  go_wp2_with (first | (at_range; refine wpList_range_own _ rfl _ 53 rfl 22 5 u32law Try.underlying53 _ M _ D rfl hown ?_; intro w0 hrg0 hg0 hs0) | fail)
  go_frame
  have hb0 : Below w.heap.size w w0 := ⟨hg0.os, hg0.tape, hg0.output, hg0.size, fun k hk => hg0.block k hk (by simp)⟩
  clear cP0 cP1 cP2 cP3 cP4 cP5 cP6 fP
  go_loopw [5] (fun _ wr => ∃ left cnt, wr.ranges Try.prog 22 (plainElem (H := Unit) Try.prog 5) M w.heap.size (Maps.size D) D left cnt ∧ (∀ x, x < 4294967296 → Maps.has D (key x) = true → left (key x) = false → ofs x s.next < ofs e s.next) ∧ Below w.heap.size w wr) (fun _ wr => wr.rangeLeft M w.heap.size)
  case atStart => exact ⟨_, _, hrg0, fun x _ h h' => absurd h (by rw [h']; exact Bool.noConfusion), hb0⟩
  case round =>
    obtain ⟨left, cnt, hrg, hall, hb⟩ := hrel
    clear hrg0 hg0 hs0 hb0
    have gr : hget wr P = _ := (hb.block P hPw).trans gP
    have HALL := hid hall
    have HD := hid hD
    clear hall hD
    go_wp2_with (first | (at_next; refine wpList_next_ranges_ii _ rfl _ rfl 22 5 .u32 .u8 u32law Try.underlying22 Try.underlying5 M w.heap.size (Maps.size D) _ _ _ rfl hrg ?_ ?_) | fail)
    · intro _ hl0
      go_wp2_with fail
      go_ret
      refine ⟨?_, hb⟩
      show Ending.returned (Value.bool true) = _
      have : (s.held.drop (ofs e s.next)).all Option.isNone = true := by
        refine List.all_eq_true.2 fun y hy => ?_
        obtain ⟨j, hj, rfl⟩ := List.mem_iff_getElem.1 hy
        rw [List.length_drop] at hj
        rw [List.getElem_drop]
        have hlen := HS.out.len
        have hz := HS.out.size
        cases hc : s.held[ofs e s.next + j] with
        | none => rfl
        | some c =>
          have hi : ofs e s.next + j < 4294967296 := by omega
          have h2 := HD.out.has (at' s.next (ofs e s.next + j)) (at_lt _ _)
          rw [ofs_at HS.out.next hi, List.getD_eq_getElem?_getD, List.getElem?_eq_getElem (by omega), hc] at h2
          have := HALL.out _ (at_lt _ _) h2 (hl0 _)
          rw [ofs_at HS.out.next hi] at this
          omega
      rw [this]
    · intro x c w1 cnt1 hwx hwc hlx hat hrg1 hlt hg1 hs1 hen
      have g1 : hget w1 P = _ := hget_grown gr hg1 (by simp; omega)
      have b1 : Below w.heap.size w w1 := hb.trans ⟨hg1.os, hg1.tape, hg1.output, hg1.size, fun k hk => hg1.block k (Nat.lt_of_lt_of_le hk hb.size) (by simp; omega)⟩
      have c0 : w1.cell? ⟨P, 0, none⟩ = some (.int .u32 (s.next : Int)) := cell_at g1 0
      obtain ⟨x, rfl, hx⟩ := key_wf hwx
      have h2 := ofs_int x s.next hnx
      have HAT := hid hat
      have HG := hid hg1
      have HLX := hid hlx
      clear hat hg1 hlx
      go_wp2_with fail
      by_cases hge : ofs e s.next ≤ ofs x s.next
      · have d1 : decide (ofs e s.next ≤ ofs x s.next) = true := decide_eq_true hge
        go_quiet (fail)
        go_wp2_with fail
        go_ret
        refine ⟨?_, (b1.trans (Dr.below ⟨_, rfl⟩))⟩
        show Ending.returned (Value.bool false) = _
        have : (s.held.drop (ofs e s.next)).all Option.isNone = false := by
          cases ha : (s.held.drop (ofs e s.next)).all Option.isNone
          · rfl
          · have h3 := HD.out.has x hx
            have h4 : Maps.has D (key x) = true := Maps.has_true_of_atKey HAT.out
            rw [h4] at h3
            have := all_none ha _ h3.symm
            omega
        rw [this]
      · have d1 : decide (ofs e s.next ≤ ofs x s.next) = false := decide_eq_false hge
        go_quiet (fail)
        go_wp2_with fail
        refine ⟨⟨_, _, hrg1.kept (row := none) ⟨rfl, rfl, rfl, Nat.le_refl _, fun _ _ _ => rfl⟩ (by simp) (by simp), fun y hy hhas hleft => ?_, (b1.trans (Dr.below ⟨_, rfl⟩))⟩, ?_⟩
        · by_cases hyx : y = x
          · subst hyx; omega
          · refine HALL.out y hy hhas ?_
            have h3 : (key y).sameKey (Lit.int .u32 (x : Int)) = false := Maps.sameKey_ne (key_ne hyx)
            simpa [h3] using hleft
        · show w1.rangeLeft M w.heap.size < wr.rangeLeft M w.heap.size
          rw [hrg1.left_eq, hrg.left_eq]; exact hlt
end
end Go.Proofs.Ytkmkgfgppblleaa
