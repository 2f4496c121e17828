/- The walks of the document's numbers: less, minus. -/
import Derived.Test.YtaencgjlneohnaaOrdR0
import Derived.Test.YtaencgjlneohnaaAR
import Derived.Deep.MidRow
namespace Go.Proofs.Ytaencgjlneohnaa
open Go.RowKit DG

theorem ref_less (a b : List Nat) (W : World) (ha : All 256 a) (hb : All 256 b) (hal : a.length = 32) (hbl : b.length = 32) :
    Calls Try.prog 21 #[.agg (ints .u8 a), .agg (ints .u8 b)] W fun e w' => e = .returned (.bool (decide (val 256 a < val 256 b))) ∧ Below W.heap.size W w' := by
  have hsa : (ints .u8 a).size = 32 := by rw [ints_size, hal]
  have hsb : (ints .u8 b).size = 32 := by rw [ints_size, hbl]
  go_enter Try.func21, Try.ntmps21
  go_wp2_with fail
  obtain ⟨N, hN⟩ : ∃ N, N = W.heap.size := ⟨_, rfl⟩
  rw [← hN]
  have HN := hid hN
  go_loopw [5] (fun i wr => ∃ k : Nat, k ≤ 32 ∧ i = .int .i64 ((k : Int) - 1) ∧ a.drop k = b.drop k ∧ wr.heap[N]? = some (.cells (ints .u8 a) 37 (0, 0)) ∧ wr.heap[N + 1]? = some (.cells (ints .u8 b) 37 (0, 0)) ∧ Below W.heap.size W wr) (fun i _ => (intOf i + 1).toNat)
  case atStart =>
    refine ⟨32, by omega, rfl, by rw [List.drop_of_length_le (by omega), List.drop_of_length_le (by omega)], alloc_old (alloc_at' hN _), alloc_at' (by simp [hN]) _, below_alloc (below_new _) _⟩
  case round =>
    obtain ⟨k, hk, rfl, hd, rA, rB, rb⟩ := hrel
    have HD := hid hd
    have RBE := hid rb
    have HAL := hid hal
    have HBL := hid hbl
    clear hd rb hN
    match k with
    | 0 =>
      have hkd : decide ((0 : Int) - 1 ≥ 0) = false := decide_eq_false (by omega)
      go_wp2_with fail
      refine bodyPost_ret (v := .bool false) (by simp [results, Try.results21, go_sem]) rfl ⟨?_, RBE.out⟩
      rw [show a = b from by simpa using HD.out]
      simp
    | m + 1 =>
      have he : ((m + 1 : Nat) : Int) - 1 = (m : Int) := by omega
      rw [he]
      have hkd : decide ((m : Int) ≥ 0) = true := decide_eq_true (by omega)
      have hm : m < 32 := by omega
      have hi0 : 0 ≤ (m : Int) := by omega
      have hi1 : (m : Int) < 32 := by omega
      have ca := ints_cell rA (j := m) (by omega)
      have cb := ints_cell rB (j := m) (by omega)
      have hx := ha.getD (j := m) (by omega)
      have hy := hb.getD (j := m) (by omega)
      have RA := hid rA
      have RB := hid rB
      clear rA rB
      generalize hxa : a.getD m 0 = x at *
      generalize hyb : b.getD m 0 = y at *
      have HX := hid hxa
      have HY := hid hyb
      clear hxa hyb hal hbl hsa hsb
      go_wp2_with fail
      go_quiet (fail)
      by_cases hxy : x = y
      · have hne : (((x : Int) != (y : Int))) = false := by simp [hxy]
        go_wp2_with fail
        exact ⟨⟨m, by omega, rfl, drop_step (by have := HAL.out; omega) (HAL.out.trans HBL.out.symm) HD.out (by rw [HX.out, HY.out, hxy]), RA.out, RB.out, RBE.out.trans (Dr.below ⟨_, rfl⟩)⟩, by simp [intOf]⟩
      · have hne : (((x : Int) != (y : Int))) = true := by simp [bne_iff_ne]; omega
        go_wp2_with fail
        go_quiet (fail)
        go_wp2_with fail
        refine bodyPost_ret (v := .bool (decide (x < y))) (by simp [results, Try.results21, go_sem]) rfl ⟨?_, ?_⟩
        · have := less_iff ha hb (HAL.out.trans HBL.out.symm) (k := m) (by have := HAL.out; omega) HD.out (by rw [HX.out, HY.out]; exact hxy)
          rw [HX.out, HY.out] at this
          rw [this]
        · exact RBE.out.trans ((Dr.below ⟨_, rfl⟩).trans (Dr.below ⟨_, rfl⟩))


end Go.Proofs.Ytaencgjlneohnaa
