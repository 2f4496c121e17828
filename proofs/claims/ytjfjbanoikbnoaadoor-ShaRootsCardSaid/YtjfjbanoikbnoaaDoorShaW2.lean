/- The walks of the document's digest: a word, a block. -/
import Derived.Test.YtjfjbanoikbnoaaDoorShaW1
import Derived.Test.YtjfjbanoikbnoaaDoorShaQ
import Derived.Test.YtjfjbanoikbnoaaDoorROW
namespace Go.Proofs.YtjfjbanoikbnoaaDoor
open Go.RowKit

theorem info_A80 : (Tryd.prog.info? 29).map (·.size) = some 80 := by kernel_rfl
theorem info_A8 : (Tryd.prog.info? 32).map (·.size) = some 8 := by kernel_rfl

/-- Eight words in memory. -/
def stv (x : SH.St) : Array Value := wrow (stl x)

set_option maxHeartbeats 400000 in
theorem rword_any (l : List UInt64) (i : Nat) (W : World) (hl : l.length = 80) (h16 : 16 ≤ i) (h80 : i < 80) :
    Calls Tryd.prog 20 #[.agg (wrow l), .int .i64 (i : Int)] W fun e w' => e = .returned (.int .u64 (UW (wordOf (l.getD (i - 16) 0) (l.getD (i - 15) 0) (l.getD (i - 7) 0) (l.getD (i - 2) 0)))) ∧ Below W.heap.size W w' := by
  have hs : (wrow l).size = 80 := by rw [wrow_size, hl]
  have h1 : (i : Int) - 16 = ((i - 16 : Nat) : Int) := by omega
  have h2 : (i : Int) - 15 = ((i - 15 : Nat) : Int) := by omega
  have h3 : (i : Int) - 7 = ((i - 7 : Nat) : Int) := by omega
  have h4 : (i : Int) - 2 = ((i - 2 : Nat) : Int) := by omega
  obtain ⟨w1, hw1⟩ : ∃ w1, W.alloc (.cells (wrow l) 29) = w1 := ⟨_, rfl⟩
  have fA : w1.heap[W.heap.size]? = some (.cells (wrow l) 29 (0, 0)) := by rw [← hw1]; exact alloc_at _ _
  have bB := hid (hw1 ▸ below_new (w := W) (.cells (wrow l) 29))
  have c1 := wrow_cell fA (j := i - 16) (by omega)
  have c2 := wrow_cell fA (j := i - 15) (by omega)
  have c3 := wrow_cell fA (j := i - 7) (by omega)
  have c4 := wrow_cell fA (j := i - 2) (by omega)
  have g1 : i - 16 < 80 := by omega
  have g2 : i - 15 < 80 := by omega
  have g3 : i - 7 < 80 := by omega
  have g4 : i - 2 < 80 := by omega
  generalize l.getD (i - 16) 0 = a at *
  generalize l.getD (i - 15) 0 = b at *
  generalize l.getD (i - 7) 0 = c at *
  generalize l.getD (i - 2) 0 = d at *
  generalize i - 16 = i1 at *
  generalize i - 15 = i2 at *
  generalize i - 7 = i3 at *
  generalize i - 2 = i4 at *
  clear fA
  go_enter Tryd.func20, Tryd.ntmps20
  go_wp2_with fail
  have q1 : IntKind.i64.wrap ((i : Int) - 16) = (i1 : Int) := by rw [h1]; exact IntWalk.i64_in _ (by omega)
  have q3 : IntKind.i64.wrap ((i : Int) - 7) = (i3 : Int) := by rw [h3]; exact IntWalk.i64_in _ (by omega)
  have e1 : 0 ≤ (i1 : Int) := by omega
  have e3 : 0 ≤ (i3 : Int) := by omega
  have f1 : (i1 : Int) < 80 := by omega
  have f3 : (i3 : Int) < 80 := by omega
  have r1 := fun w => right_lit b 1 1 rfl (by decide) (by decide) w
  have r8 := fun w => right_lit b 8 8 rfl (by decide) (by decide) w
  have r19 := fun w => right_lit d 19 19 rfl (by decide) (by decide) w
  have r61 := fun w => right_lit d 61 61 rfl (by decide) (by decide) w
  have R1 := hid r1
  have R8 := hid r8
  have R19 := hid r19
  have R61 := hid r61
  clear r1 r8 r19 r61
  go_quiet ((first | (go_at_call 21; with_reducible exact Calls.quiet_of_same (R1.out _)) | (go_at_call 21; with_reducible exact Calls.quiet_of_same (R8.out _)) | (go_at_call 21; with_reducible exact Calls.quiet_of_same (R19.out _)) | (go_at_call 21; with_reducible exact Calls.quiet_of_same (R61.out _))))
  go_wp2_with fail
  go_ret
  exact ⟨rfl, bB.out.trans (Dr.below ⟨_, rfl⟩)⟩

@[go_sem] theorem zero80 (w : World) : (zeroValue 29).run Tryd.prog w = .ok (.agg (wrow (List.replicate 80 0))) w := by kernel_rfl

set_option maxRecDepth 100000 in
theorem rrounds_any (W : World) : Calls Tryd.prog 10 #[] W fun e w' => e = .returned (.agg (wrow SH.K)) ∧ Below W.heap.size W w' := by
  go_enter Tryd.func10, Tryd.ntmps10
  go_upto_region 1 with (fail)
  refine wp_region_list ?_
  refine wp_build (by rfl) _ _ (by rfl) (wrow SH.K) (by kernel_rfl) ?_
  refine wp_store_row (by rfl) _ _ _ (by rfl) (by rfl) (by rfl) (alloc_at _ _) (by rw [info_A80, wrow_size]; rfl) (by rw [wrow_size, wrow_size]; rfl) (wrow_one _) ?_
  have RN := hid (blk_heap (w := W.alloc (.cells (wrow (List.replicate 80 0)) 29)) (b := W.heap.size) (o := .cells (wrow SH.K) 29 (0, 0)) (lt_blk (alloc_at _ _)))
  go_wp2_with fail
  refine bodyPost_ret (v := .agg (wrow SH.K)) (results_cell_row Tryd.results10 _ _ (W.heap.size) _ _ _ _ (by rfl) RN.out Tryd.underlying29 rfl (by rw [info_A80]; rfl)) rfl ⟨rfl, below_blk' (below_new _) (Nat.le_refl _) _⟩

theorem rfirst_any (W : World) : Calls Tryd.prog 12 #[] W fun e w' => e = .returned (.agg (stv SH.init)) ∧ Below W.heap.size W w' := by
  go_enter Tryd.func12, Tryd.ntmps12
  go_wp2_with fail
  exact bodyPost_ret (v := .agg (stv SH.init)) (by simp [results, Tryd.results12, go_sem]; rfl) rfl ⟨rfl, below_new _⟩

end Go.Proofs.YtjfjbanoikbnoaaDoor
