/- The walks of the order's numbers: of, Of. -/
import Derived.Test.YtaencgjlneohnaaOrdW1
namespace Go.Proofs.Ytaencgjlneohnaa
open Go.RowKit DG

set_option maxHeartbeats 1000000 in
theorem of_any (bw off cap : Nat) (ws : List Nat) (W : World) (hall : All (2 ^ 64) ws) (hlen : ws.length ≤ 8) (hcap : ws.length ≤ cap) (hpos : 0 < ws.length)
    (hc : ∀ j, j < ws.length → W.cell? ⟨bw, off + j, none⟩ = some (.int .u64 ((ws.getD j 0 : Nat) : Int))) :
    Calls Try.prog 20 #[.slice (some ⟨bw, off, none⟩) ws.length cap] W fun e w' => e = .returned (.agg (quad (val (2 ^ 64) ws % ordL))) ∧ Below W.heap.size W w' := by
  have hbw : bw < W.heap.size := World.block_lt_of_cell? W _ (hc 0 hpos)
  have HC := hid hc
  clear hc
  generalize hl : ws.length = len at *
  have HL := hid hl
  clear hl
  go_enter Try.func20, Try.ntmps20
  go_wp2_with fail
  have hl64 : (len : Int) ≤ 8 := by omega
  go_loopw [3] (fun i wr => ∃ k : Nat, k ≤ 64 * len ∧ i = .int .i64 ((k : Int) - 1) ∧ wr.heap[W.heap.size]? = some (.cells (quad (val (2 ^ 64) ws / 2 ^ k % ordL)) 26 (0, 0)) ∧ Below W.heap.size W wr)
    (fun i _ => (intOf i + 1).toNat)
  case atStart =>
    refine ⟨64 * len, Nat.le_refl _, by simp, ?_, below_new _⟩
    have hv := val_lt hall
    rw [HL.out, ← Nat.pow_mul] at hv
    rw [Nat.div_eq_of_lt hv, Nat.zero_mod, quad_zero]
    exact alloc_at _ _
  case round =>
    obtain ⟨k, hk, rfl, hq, hb⟩ := hrel
    have HQ := hid hq
    clear hq
    by_cases hk0 : 0 < k
    · obtain ⟨j, rfl⟩ : ∃ j, k = j + 1 := ⟨k - 1, by omega⟩
      rw [show (((j + 1 : Nat) : Int) - 1) = (j : Int) by omega]
      have cj := (hb.cell (p := ⟨bw, off + j / 64, none⟩) hbw).trans (HC.out (j / 64) (by omega))
      have hj : (j : Int) < 64 * len := by omega
      have hj1 : j / 64 < len := by omega
      go_wp2_with fail
      have hx := hall.getD (j := j / 64) (by rw [HL.out]; exact hj1)
      have hbd := bit_digit (w := 64) hall j (by decide) (by rw [HL.out]; omega)
      refine (push_any W.heap.size (val (2 ^ 64) ws / 2 ^ (j + 1) % ordL) (val (2 ^ 64) ws / 2 ^ j % 2) _ _ HQ.out (Nat.mod_lt _ (by decide)) ?_ (by omega)).mono ?_
      · rw [hbd, ← List.getD_eq_getElem?_getD, and1_shr _ _ hx]
      rintro e w' ⟨rfl, ho, hq⟩
      have hs := of_step (val (2 ^ 64) ws) (j + 1) (by omega)
      rw [show j + 1 - 1 = j by omega] at hs
      rw [hs] at hq
      have HQ' := hid hq
      have hb' := hb.trans (ho.below (Nat.le_refl _) hb.size)
      clear hq hs hbd hx cj ho
      go_wp2_with fail
      exact ⟨⟨j, by omega, rfl, HQ'.out, hb'⟩, by simp [intOf]⟩
    · have hk1 : k = 0 := by omega
      subst hk1
      rw [show (((0 : Nat) : Int) - 1) = -1 by omega]
      have hq := HQ.out
      rw [Nat.pow_zero, Nat.div_one] at hq
      generalize hn : val (2 ^ 64) ws % ordL = n at *
      have HN := hid hn
      have hltn : n < ordL := by rw [← hn]; exact Nat.mod_lt _ (by decide)
      clear hn HQ
      obtain ⟨a0, a1, a2, a3, hqq, _⟩ := quad_w4 n (by unfold ordL at hltn; omega)
      rw [hqq] at hq
      have c0 : wr.cell? ⟨W.heap.size, 0, none⟩ = some (.int .u64 a0) := cell_at hq 0
      have c1 : wr.cell? ⟨W.heap.size, 1, none⟩ = some (.int .u64 a1) := cell_at hq 1
      have c2 : wr.cell? ⟨W.heap.size, 2, none⟩ = some (.int .u64 a2) := cell_at hq 2
      have c3 : wr.cell? ⟨W.heap.size, 3, none⟩ = some (.int .u64 a3) := cell_at hq 3
      have hf := free_at hq
      have HQ2 := hid hq
      have HQQ := hid hqq
      clear hq hqq
      go_wp2_with fail
      have hq2 := at_setCell (at_setCell (at_setCell (at_setCell HQ2.out 0 (.int .u64 a0)) 1 (.int .u64 a1)) 2 (.int .u64 a2)) 3 (.int .u64 a3)
      refine bodyPost_ret (v := .agg #[.int .u64 a0, .int .u64 a1, .int .u64 a2, .int .u64 a3]) (by simp [results, Try.results20, go_sem, c0, c1, c2, c3]) rfl ⟨by rw [HN.out, HQQ.out], ?_⟩
      exact (((hb.setCell (Nat.le_refl _) _).setCell (Nat.le_refl _) _).setCell (Nat.le_refl _) _).setCell (Nat.le_refl _) _

end Go.Proofs.Ytaencgjlneohnaa
