/- The law's helpers: is, alive. -/
import Derived.Test.YtaencgjlneohnaaOrdR6
namespace Go.Proofs.Ytaencgjlneohnaa
open Go.RowKit DG

theorem below_cell {W1 w1 w2 : World} {p : Addr} {v : Value} (hB : Below W1.heap.size W1 w1) (hlt : p.block < W1.heap.size) (hb : Below w1.heap.size w1 w2) (h : w1.cell? p = some v) : w2.cell? p = some v :=
  (hb.cell (p := p) (Nat.lt_of_lt_of_le hlt hB.size)).trans h

set_option maxHeartbeats 1000000 in
theorem is_any (n : Nat) (W : World) (hn : n < ordL) : Calls Try.prog 13 #[.agg (quad n), .agg (ints .u8 (digs 256 n 32))] W fun e w' => e = .returned (.bool true) ∧ Below W.heap.size W w' := by
  have hn2 : n < 115792089237316195423570985008687907853269984665640564039457584007913129639936 := Nat.lt_trans hn (by decide)
  obtain ⟨x0, x1, x2, x3, hqq, _⟩ := quad_list n hn2
  have hby := fun w => Bytes_any n w hn2
  rw [hqq] at hby
  have hbr := fun w => ref_Bytes n w
  obtain ⟨l, hl⟩ : ∃ l, digs 256 n 32 = l := ⟨_, rfl⟩
  have hll : l.length = 32 := by rw [← hl, digs_length]
  rw [hl] at hbr
  rw [hqq, hl]
  have HBY := hid hby
  have HBR := hid hbr
  have hs : (ints .u8 l).size = 32 := by rw [ints_size, hll]
  have HLL := hid hll
  clear hqq hl hby hbr hn2 hn hll
  generalize (natBytes n 32).toArray = bs at *
  go_enter Try.func13, Try.ntmps13
  go_wp2_with fail
  clear hs
  obtain ⟨w1, hw1⟩ : ∃ w1, ((W.alloc (.cells #[.int .u64 (x0 : Int), .int .u64 (x1 : Int), .int .u64 (x2 : Int), .int .u64 (x3 : Int)] 26)).alloc (.cells (ints .u8 l) 37)) = w1 := ⟨_, rfl⟩
  have fA : w1.heap[W.heap.size]? = some (.cells #[.int .u64 (x0 : Int), .int .u64 (x1 : Int), .int .u64 (x2 : Int), .int .u64 (x3 : Int)] 26 (0, 0)) := by rw [← hw1]; exact alloc_old (alloc_at _ _)
  have fB : w1.heap[W.heap.size + 1]? = some (.cells (ints .u8 l) 37 (0, 0)) := by rw [← hw1]; exact alloc_at' (by simp) _
  have hb1 : Below W.heap.size W w1 := by rw [← hw1]; exact below_alloc (below_new _) _
  rw [hw1]
  clear hw1
  obtain ⟨N, hN⟩ : ∃ N, W.heap.size = N := ⟨_, rfl⟩
  rw [hN] at fA fB ⊢
  have HB1 := hid hb1
  clear hN hb1
  have c0 : w1.cell? ⟨N, 0, none⟩ = some (.int .u64 (x0 : Int)) := cell_at fA 0
  have c1 : w1.cell? ⟨N, 1, none⟩ = some (.int .u64 (x1 : Int)) := cell_at fA 1
  have c2 : w1.cell? ⟨N, 2, none⟩ = some (.int .u64 (x2 : Int)) := cell_at fA 2
  have c3 : w1.cell? ⟨N, 3, none⟩ = some (.int .u64 (x3 : Int)) := cell_at fA 3
  have hrow := row_range fB
  have hN0 : N < w1.heap.size := lt_blk fA
  have hN1 : N + 1 < w1.heap.size := lt_blk fB
  have hi37 : (Try.prog.info? 37).map (·.size) = some (l.map fun (x : Nat) => Value.int .u8 (x : Int)).length := by rw [info_Num]; simp [HLL.out]
  have hu37 := Try.underlying37
  have hl32 : (l.map fun (x : Nat) => Value.int .u8 (x : Int)).length = 32 := by simp [HLL.out]
  have hone : ∀ v ∈ (l.map fun (x : Nat) => Value.int .u8 (x : Int)), v.oneCell' = true := by
    intro v hv
    simp only [List.mem_map] at hv
    obtain ⟨x, _, rfl⟩ := hv
    rfl
  clear fA fB
  go_region_held3 (fun w' => w'.cell? ⟨N, 0, none⟩ = some (.int .u64 (x0 : Int)) ∧ w'.cell? ⟨N, 1, none⟩ = some (.int .u64 (x1 : Int)) ∧ w'.cell? ⟨N, 2, none⟩ = some (.int .u64 (x2 : Int)) ∧ w'.cell? ⟨N, 3, none⟩ = some (.int .u64 (x3 : Int)) ∧ w'.rangeAt (N + 1) 0 (l.map fun (x : Nat) => Value.int .u8 (x : Int)) ∧ Below w1.heap.size w1 w')
    (first | exact ⟨c0, c1, c2, c3, by simpa using hrow, (Below.refl _ _).drew⟩ | (go_split_ands; exact ⟨below_cell (by assumption) hN0 (by assumption) (by assumption), below_cell (by assumption) hN0 (by assumption) (by assumption), below_cell (by assumption) hN0 (by assumption) (by assumption), below_cell (by assumption) hN0 (by assumption) (by assumption), keepS (by assumption) (by assumption) hN1 (by assumption)⟩))
    (first | (go_at_call 17; refine (HBY.out _).mono ?_; rintro e w2 ⟨rfl, hb2⟩) | (go_at_call 19; refine (HBR.out _).mono ?_; rintro e w3 ⟨rfl, hb3⟩))
  all_goals
    rename_i hH
    obtain ⟨_, _, _, _, _, hbw⟩ := hH
    go_wp2_with fail
    go_ret
    exact ⟨rfl, below_to HB1.out hbw⟩

end Go.Proofs.Ytaencgjlneohnaa
