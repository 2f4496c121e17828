/- The law OrderReads: the walk. -/
import Derived.Test.YtaencgjlneohnaaOrdL2
namespace Go.Proofs.Ytaencgjlneohnaa
open Go.RowKit DG

set_option maxHeartbeats 1000000 in
theorem reads_far (s : ByteArray) (W : World) (h : 4096 < s.size) : Calls Try.prog 3 #[.string s] W fun e w' => e = .returned (.bool true) ∧ Below W.heap.size W w' := by
  have hd : decide ((s.size : Int) > 4096) = true := decide_eq_true (by omega)
  have hd2 : decide (4096 < (s.size : Int)) = true := decide_eq_true (by omega)
  go_enter Try.func3, Try.ntmps3
  go_wp2_with fail
  refine (alive_any _).mono ?_
  rintro e w1 ⟨rfl, hb1⟩
  go_wp2_with fail
  go_ret
  exact ⟨rfl, hb1⟩

theorem below_of (B : World) {w w' : World} (h : Below B.heap.size B w) (h' : Below w.heap.size w w') : Below B.heap.size B w' := below_to h h'
theorem quad_cells {w : World} {b : Nat} {x0 x1 x2 x3 : Value} {T : TypeId} {fz : Nat × Nat} (h : w.heap[b]? = some (.cells #[x0, x1, x2, x3] T fz)) :
    w.cell? ⟨b, 0, none⟩ = some x0 ∧ w.cell? ⟨b, 1, none⟩ = some x1 ∧ w.cell? ⟨b, 2, none⟩ = some x2 ∧ w.cell? ⟨b, 3, none⟩ = some x3 :=
  ⟨cell_at h 0, cell_at h 1, cell_at h 2, cell_at h 3⟩

set_option maxHeartbeats 1000000 in
theorem reads_32 (s : ByteArray) (W : World) (h : s.size = 32) : Calls Try.prog 3 #[.string s] W fun e w' => e = .returned (.bool true) ∧ Below W.heap.size W w' := by
  have h8 : 8 * s.size ≤ 9223372036854775807 := by omega
  have H := hid h
  have hmax : s.size ≤ 9223372036854775807 := by omega
  have hlt : bytesNat s.data.toList % ordL < ordL := Nat.mod_lt _ (by decide)
  obtain ⟨x0, x1, x2, x3, hqq, _⟩ := quad_list (bytesNat s.data.toList % ordL) (Nat.lt_trans hlt (by decide))
  have hof := fun w => Of_32 s w h
  have his := fun w => is_any (bytesNat s.data.toList % ordL) w hlt
  have hro := fun w => ref_Of s w h8
  rw [hqq] at hof his
  generalize digs 256 (bytesNat s.data.toList % ordL) 32 = l at *
  have hs1 : (s.size : Int) = 32 := by omega
  have HOF := hid hof
  have HIS := hid his
  have HRO := hid hro
  have H8 := hid h8
  have HM := hid hmax
  clear hof his hro h8 hmax hlt hqq h
  go_enter Try.func3, Try.ntmps3
  go_wp2_with fail
  refine (HOF.out _).mono ?_
  rintro e w1 ⟨rfl, hb1⟩
  have b1 := hid hb1
  clear hb1
  go_wp2_with fail
  refine (Clamp_32 s _ H.out).mono ?_
  rintro e w2 ⟨rfl, hb2⟩
  have A2 := hid ((hb2.block w1.heap.size (by simp)).trans (alloc_at _ _))
  have b2 := hid (below_to (below_alloc b1.out _) hb2)
  generalize w1.heap.size = NA at *
  clear hb2 b1
  go_wp2_with fail
  refine (Canonical_any s _ HM.out).mono ?_
  rintro e w3 ⟨rfl, hb3⟩
  have A3 := hid ((hb3.block NA (lt_blk A2.out)).trans A2.out)
  have b3 := hid (below_to b2.out hb3)
  clear hb3 A2 b2
  go_wp2_with fail
  refine (ref_Canonical s _ H8.out).mono ?_
  rintro e w4 ⟨rfl, hb4⟩
  have A4 := hid ((hb4.block NA (lt_blk A3.out)).trans A3.out)
  have b4 := hid (below_to b3.out hb4)
  clear hb4 A3 b3
  generalize canB s = cb at *
  go_wp2_with fail
  refine (ref_Clamp s _ H.out).mono ?_
  rintro e w5 ⟨rfl, hb5⟩
  have A5 := hid ((hb5.block NA (lt_blk A4.out)).trans A4.out)
  have b5 := hid (below_to b4.out hb5)
  have hNA := lt_blk A5.out
  obtain ⟨c0, c1, c2, c3⟩ := quad_cells A5.out
  clear hb5 A4 b4
  go_wp2_with fail
  go_region_held3 (fun w' => w'.cell? ⟨NA, 0, none⟩ = some (.int .u64 (x0 : Int)) ∧ w'.cell? ⟨NA, 1, none⟩ = some (.int .u64 (x1 : Int)) ∧ w'.cell? ⟨NA, 2, none⟩ = some (.int .u64 (x2 : Int)) ∧ w'.cell? ⟨NA, 3, none⟩ = some (.int .u64 (x3 : Int)) ∧ Below w5.heap.size w5 w')
    (first | exact ⟨c0, c1, c2, c3, (Below.refl _ _).drew⟩ | (go_split_ands; exact ⟨below_cell (by assumption) hNA (by assumption) (by assumption), below_cell (by assumption) hNA (by assumption) (by assumption), below_cell (by assumption) hNA (by assumption) (by assumption), below_cell (by assumption) hNA (by assumption) (by assumption), below_of w5 (by assumption) (by assumption)⟩))
    (first | (go_at_call 14; refine (HRO.out _).mono ?_; rintro e w6 ⟨rfl, hb6⟩) | (go_at_call 13; refine (HIS.out _).mono ?_; rintro e w7 ⟨rfl, hb7⟩) | (go_at_call 6; refine (alive_any _).mono ?_; rintro e w8 ⟨rfl, hb8⟩))
  all_goals
    rename_i hH
    obtain ⟨_, _, _, _, hbw⟩ := hH
    go_wp2_with fail
    go_ret
    exact ⟨rfl, below_to b5.out hbw⟩

set_option maxHeartbeats 1000000 in
theorem reads_64 (s : ByteArray) (W : World) (h : s.size = 64) : Calls Try.prog 3 #[.string s] W fun e w' => e = .returned (.bool true) ∧ Below W.heap.size W w' := by
  have h8 : 8 * s.size ≤ 9223372036854775807 := by omega
  have H := hid h
  have hmax : s.size ≤ 9223372036854775807 := by omega
  have hlt : bytesNat s.data.toList % ordL < ordL := Nat.mod_lt _ (by decide)
  obtain ⟨x0, x1, x2, x3, hqq, _⟩ := quad_list (bytesNat s.data.toList % ordL) (Nat.lt_trans hlt (by decide))
  have hof := fun w => Of_64 s w h
  have his := fun w => is_any (bytesNat s.data.toList % ordL) w hlt
  have hro := fun w => ref_Of s w h8
  rw [hqq] at hof his
  generalize digs 256 (bytesNat s.data.toList % ordL) 32 = l at *
  have hs1 : (s.size : Int) = 64 := by omega
  have HOF := hid hof
  have HIS := hid his
  have HRO := hid hro
  have H8 := hid h8
  have HM := hid hmax
  clear hof his hro h8 hmax hlt hqq h
  go_enter Try.func3, Try.ntmps3
  go_wp2_with fail
  refine (HOF.out _).mono ?_
  rintro e w1 ⟨rfl, hb1⟩
  have b1 := hid hb1
  clear hb1
  go_wp2_with fail
  refine (Clamp_no s _ (by have := H.out; omega)).mono ?_
  rintro e w2 ⟨rfl, hb2⟩
  have A2 := hid ((hb2.block w1.heap.size (by simp)).trans (alloc_at _ _))
  have b2 := hid (below_to (below_alloc b1.out _) hb2)
  generalize w1.heap.size = NA at *
  clear hb2 b1
  go_wp2_with fail
  refine (Canonical_any s _ HM.out).mono ?_
  rintro e w3 ⟨rfl, hb3⟩
  have A3 := hid ((hb3.block NA (lt_blk A2.out)).trans A2.out)
  have b3 := hid (below_to b2.out hb3)
  clear hb3 A2 b2
  go_wp2_with fail
  refine (ref_Canonical s _ H8.out).mono ?_
  rintro e w4 ⟨rfl, hb4⟩
  have A4 := hid ((hb4.block NA (lt_blk A3.out)).trans A3.out)
  have b4 := hid (below_to b3.out hb4)
  clear hb4 A3 b3
  generalize canB s = cb at *
  have A5 := A4
  have hNA := lt_blk A5.out
  obtain ⟨c0, c1, c2, c3⟩ := quad_cells A5.out
  clear A4
  go_wp2_with fail
  go_region_held3 (fun w' => w'.cell? ⟨NA, 0, none⟩ = some (.int .u64 (x0 : Int)) ∧ w'.cell? ⟨NA, 1, none⟩ = some (.int .u64 (x1 : Int)) ∧ w'.cell? ⟨NA, 2, none⟩ = some (.int .u64 (x2 : Int)) ∧ w'.cell? ⟨NA, 3, none⟩ = some (.int .u64 (x3 : Int)) ∧ Below w4.heap.size w4 w')
    (first | exact ⟨c0, c1, c2, c3, (Below.refl _ _).drew⟩ | (go_split_ands; exact ⟨below_cell (by assumption) hNA (by assumption) (by assumption), below_cell (by assumption) hNA (by assumption) (by assumption), below_cell (by assumption) hNA (by assumption) (by assumption), below_cell (by assumption) hNA (by assumption) (by assumption), below_of w4 (by assumption) (by assumption)⟩))
    (first | (go_at_call 14; refine (HRO.out _).mono ?_; rintro e w6 ⟨rfl, hb6⟩) | (go_at_call 13; refine (HIS.out _).mono ?_; rintro e w7 ⟨rfl, hb7⟩) | (go_at_call 6; refine (alive_any _).mono ?_; rintro e w8 ⟨rfl, hb8⟩))
  all_goals
    rename_i hH
    obtain ⟨_, _, _, _, hbw⟩ := hH
    go_wp2_with fail
    go_ret
    exact ⟨rfl, below_to b4.out hbw⟩

set_option maxHeartbeats 1000000 in
theorem reads_no (s : ByteArray) (W : World) (h : s.size ≠ 32) (h2 : s.size ≠ 64) (hs : s.size ≤ 4096) : Calls Try.prog 3 #[.string s] W fun e w' => e = .returned (.bool true) ∧ Below W.heap.size W w' := by
  have h8 : 8 * s.size ≤ 9223372036854775807 := by omega
  have hmax : s.size ≤ 9223372036854775807 := by omega
  have hd : decide ((s.size : Int) > 4096) = false := decide_eq_false (by omega)
  have hd2 : decide (4096 < (s.size : Int)) = false := decide_eq_false (by omega)
  have g1 : ((s.size : Int) != 32) = true := by rw [bne_iff_ne]; omega
  have g2 : ((s.size : Int) != 64) = true := by rw [bne_iff_ne]; omega
  have H := hid h
  have H2 := hid h2
  have H8 := hid h8
  have HM := hid hmax
  clear h h2 h8 hmax
  go_enter Try.func3, Try.ntmps3
  go_wp2_with fail
  refine (Of_no s _ H.out H2.out HM.out).mono ?_
  rintro e w1 ⟨rfl, hb1⟩
  rw [quad_zero]
  have b1 := hid hb1
  clear hb1
  go_wp2_with fail
  refine (Clamp_no s _ H.out).mono ?_
  rintro e w2 ⟨rfl, hb2⟩
  have A2 := hid ((hb2.block w1.heap.size (by simp)).trans (alloc_at _ _))
  have b2 := hid (below_to (below_alloc b1.out _) hb2)
  generalize w1.heap.size = NA at *
  clear hb2 b1
  go_wp2_with fail
  refine (Canonical_any s _ HM.out).mono ?_
  rintro e w3 ⟨rfl, hb3⟩
  have A3 := hid ((hb3.block NA (lt_blk A2.out)).trans A2.out)
  have b3 := hid (below_to b2.out hb3)
  clear hb3 A2 b2
  go_wp2_with fail
  refine (ref_Canonical s _ H8.out).mono ?_
  rintro e w4 ⟨rfl, hb4⟩
  have A4 := hid ((hb4.block NA (lt_blk A3.out)).trans A3.out)
  have b4 := hid (below_to b3.out hb4)
  clear hb4 A3 b3
  obtain ⟨c0, c1, c2, c3⟩ := quad_cells A4.out
  generalize canB s = cb at *
  go_wp2_with fail
  have hsm := Same_any 0 0 w4 (by decide) (by decide)
  rw [quad_zero, show eqB 0 0 = true from rfl] at hsm
  refine hsm.mono ?_
  clear hsm c0 c1 c2 c3
  rintro e w5 ⟨rfl, hb5⟩
  have b5 := hid (below_to b4.out hb5)
  clear hb5 b4 A4
  go_wp2_with fail
  refine (alive_any _).mono ?_
  rintro e w6 ⟨rfl, hb6⟩
  go_wp2_with fail
  go_ret
  exact ⟨rfl, below_to b5.out hb6⟩

end Go.Proofs.Ytaencgjlneohnaa
