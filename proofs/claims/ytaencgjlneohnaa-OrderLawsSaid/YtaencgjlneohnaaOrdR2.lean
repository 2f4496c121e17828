/- The walks of the document's numbers: minus. -/
import Derived.Test.YtaencgjlneohnaaOrdR1
import Derived.Deep.Cut
namespace Go.Proofs.Ytaencgjlneohnaa
open Go.RowKit DG

theorem info_Num : (Try.prog.info? 37).map (·.size) = some 32 := by kernel_rfl
theorem row_range {w : World} {b : Nat} {k : IntKind} {l : List Nat} {T : TypeId} {fz : Nat × Nat} (h : w.heap[b]? = some (.cells (ints k l) T fz)) : w.rangeAt b 0 (l.map fun (x : Nat) => Value.int k (x : Int)) := fun j v hv => by
  rw [Nat.zero_add, cell_at h]
  simpa [ints] using hv
theorem load_num {w : World} {b : Nat} {l : List Nat} {T : TypeId} {fz : Nat × Nat} (hl : l.length = 32) (h : w.heap[b]? = some (.cells (ints .u8 l) T fz)) :
    (Instr.loadAt 37 (.pointer (some ⟨b, 0, none⟩))).run Try.prog w = .ok (.agg (ints .u8 l)) w :=
  run_loadAt_mid w b 0 37 _ _ (row_range h) Try.underlying37 rfl (by rw [info_Num]; simp [hl])
theorem setCells_blk (vs : List Value) : ∀ (w : World) (b : Nat) (pre old post : List Value) (T : TypeId) (fz : Nat × Nat), w.heap[b]? = some (.cells (pre ++ old ++ post).toArray T fz) → old.length = vs.length →
    w.setCells b pre.length vs = blk w b (.cells (pre ++ vs ++ post).toArray T fz) := by
  induction vs with
  | nil =>
    intro w b pre old post T fz h hl
    have : old = [] := List.length_eq_zero_iff.1 hl
    subst this
    exact (blk_self h).symm
  | cons v vs ih =>
    intro w b pre old post T fz h hl
    match old, hl with
    | o :: old, hl =>
      have h1 := at_setCell h pre.length v
      have e : ((pre ++ (o :: old) ++ post).toArray.setIfInBounds pre.length v) = ((pre ++ [v]) ++ old ++ post).toArray := by
        rw [List.setIfInBounds_toArray]; simp
      rw [e] at h1
      have h2 := ih (w.setCell ⟨b, pre.length, none⟩ v) b (pre ++ [v]) old post T fz h1 (by simpa using hl)
      rw [List.length_append, List.length_singleton] at h2
      rw [World.setCells, h2, setCell_blk h, blk_blk]
      simp
theorem there_row {w : World} {b n : Nat} {c : Array Value} {T : TypeId} (h : w.heap[b]? = some (.cells c T (0, 0))) (hn : n ≤ c.size) : w.there b 0 n := fun j hj => by
  rw [Nat.zero_add, cell_at h, free_at h]
  simp; omega
theorem store_num {w : World} {b : Nat} {l : List Nat} {c : Array Value} {T : TypeId} (hl : l.length = 32) (h : w.heap[b]? = some (.cells c T (0, 0))) (hc : c.size = 32) :
    (Instr.storeAt 37 (.pointer (some ⟨b, 0, none⟩)) (.agg (ints .u8 l))).run Try.prog w = .ok () (blk w b (.cells (ints .u8 l) T (0, 0))) := by
  have h1 := run_storeAt_mid (P := Try.prog) w b 0 37 (ints .u8 l) (there_row h (by rw [ints_size]; omega)) (by rw [info_Num, ints_size, hl]) (by
    rw [Array.all_eq_true_iff_forall_mem]
    intro v hv
    simp only [ints, List.mem_toArray, List.mem_map] at hv
    obtain ⟨x, _, rfl⟩ := hv
    rfl)
  rw [h1]
  have h2 := setCells_blk (ints .u8 l).toList w b [] c.toList [] T (0, 0) (by simpa using h) (by simp [ints_size, hl, hc])
  simp only [List.length_nil, List.nil_append, List.append_nil] at h2
  rw [h2]

theorem ints_one (l : List Nat) : (ints .u8 l).all (·.oneCell') = true := by
  rw [Array.all_eq_true_iff_forall_mem]
  intro v hv
  simp only [ints, List.mem_toArray, List.mem_map] at hv
  obtain ⟨x, _, rfl⟩ := hv
  rfl
section
variable {ops : Array Oper} {rest : List Oper} {op : Oper} {a : Act} {w : World} {Q : Exit → Act → World → Prop}
theorem wp_load_num (hgd : op.guard = none) (x : Operand) (ho : op.op = .load 37 x) {b : Nat} (hx : a.eval x = .pointer (some ⟨b, 0, none⟩)) {l : List Nat} {T : TypeId} {fz : Nat × Nat}
    (hl : l.length = 32) (h : w.heap[b]? = some (.cells (ints .u8 l) T fz)) (k : wpList Try.prog ops Q rest (a.put op.dst (.agg (ints .u8 l))) w) : wpList Try.prog ops Q (op :: rest) a w :=
  wpList_load_mid hgd 37 x ho b 0 hx _ _ (row_range h) Try.underlying37 rfl (by rw [info_Num]; simp [hl]) k
theorem wp_store_num (hgd : op.guard = none) (x y : Operand) (ho : op.op = .store 37 x y) {b : Nat} (hx : a.eval x = .pointer (some ⟨b, 0, none⟩)) {l : List Nat} {c : Array Value} {T : TypeId} (hy : a.eval y = .agg (ints .u8 l))
    (hl : l.length = 32) (h : w.heap[b]? = some (.cells c T (0, 0))) (hc : c.size = 32) (k : wpList Try.prog ops Q rest (a.put op.dst undef) (blk w b (.cells (ints .u8 l) T (0, 0)))) : wpList Try.prog ops Q (op :: rest) a w := by
  refine wpList_store_mid hgd 37 x y ho b 0 (ints .u8 l) hx hy (there_row h (by rw [ints_size]; omega)) (by rw [info_Num, ints_size, hl]) (ints_one l) ?_
  have h2 := setCells_blk (ints .u8 l).toList w b [] c.toList [] T (0, 0) (by simpa using h) (by simp [ints_size, hl, hc])
  simp only [List.length_nil, List.nil_append, List.append_nil] at h2
  rw [h2]
  exact k
end

theorem ref_minus (a b : List Nat) (W : World) (ha : All 256 a) (hb : All 256 b) (hal : a.length = 32) (hbl : b.length = 32) (hle : val 256 b ≤ val 256 a) :
    Calls Try.prog 22 #[.agg (ints .u8 a), .agg (ints .u8 b)] W fun e w' => e = .returned (.agg (ints .u8 (digs 256 (val 256 a - val 256 b) 32))) ∧ Below W.heap.size W w' := by
  have hsa : (ints .u8 a).size = 32 := by rw [ints_size, hal]
  have hsb : (ints .u8 b).size = 32 := by rw [ints_size, hbl]
  go_enter Try.func22, Try.ntmps22
  go_wp2_with fail
  obtain ⟨N, hN⟩ : ∃ N, N = W.heap.size := ⟨_, rfl⟩
  rw [← hN]
  have HN := hid hN
  have hz : #[.int .u8 0, .int .u8 0, .int .u8 0, .int .u8 0, .int .u8 0, .int .u8 0, .int .u8 0, .int .u8 0, .int .u8 0, .int .u8 0, .int .u8 0, .int .u8 0, .int .u8 0, .int .u8 0, .int .u8 0, .int .u8 0, .int .u8 0, .int .u8 0, .int .u8 0, .int .u8 0, .int .u8 0, .int .u8 0, .int .u8 0, .int .u8 0, .int .u8 0, .int .u8 0, .int .u8 0, .int .u8 0, .int .u8 0, .int .u8 0, .int .u8 0, .int .u8 0] = ints .u8 (List.replicate 32 0) := rfl
  rw [hz]
  have HAL := hid hal
  have HBL := hid hbl
  go_loopw [5, 6] (fun cy i wr => ∃ (k r : Nat) (c : List Nat), k ≤ 32 ∧ i = .int .i64 (k : Int) ∧ cy = .int .i64 (r : Int) ∧ r ≤ 1 ∧ c.length = 32 ∧ All 256 c ∧ val 256 c + val 256 (b.take k) = val 256 a + r * 256 ^ k ∧
    wr.heap[N]? = some (.cells (ints .u8 c) 37 (0, 0)) ∧ wr.heap[N + 1]? = some (.cells (ints .u8 b) 37 (0, 0)) ∧ wr.heap[N + 1 + 1]? = some (.cells (ints .u8 (List.replicate 32 0)) 37 (0, 0)) ∧ Below W.heap.size W wr) (fun _ i _ => (32 - intOf i).toNat)
  case atStart =>
    refine ⟨0, 0, a, by omega, rfl, rfl, by omega, hal, ha, by simp [val], alloc_old (alloc_old (alloc_at' hN _)), alloc_old (alloc_at' (by simp [hN]) _), alloc_at' (by simp [hN]) _, below_alloc (below_alloc (below_new _) _) _⟩
  case round =>
    clear hN hz
    obtain ⟨k, r, c, hk, rfl, rfl, hr, hcl, hca, hv, rA, rB, rZ, rb⟩ := hrel
    have HV := hid hv
    have RBE := hid rb
    have RZ := hid rZ
    have HCL := hid hcl
    clear hv rb rZ
    by_cases hk32 : k < 32
    · have hkd : decide ((k : Int) < 32) = true := decide_eq_true (by omega)
      have hi0 : 0 ≤ (k : Int) := by omega
      have hi1 : (k : Int) < 32 := by omega
      have cc := ints_cell rA (j := k) (by omega)
      have cb := ints_cell rB (j := k) (by omega)
      have hx := hca.getD (j := k) (by omega)
      have hy := hb.getD (j := k) (by omega)
      have hfa := free_at rA
      have RA := hid rA
      have RB := hid rB
      clear rA rB
      generalize hxa : c.getD k 0 = x at *
      generalize hyb : b.getD k 0 = y at *
      have HX := hid hxa
      have HY := hid hyb
      clear hxa hyb hal hbl hsa hsb hcl
      obtain ⟨X, hX⟩ : ∃ X : Nat, (256 + (x : Int) - (y : Int) - (r : Int)) = (X : Int) := ⟨256 + x - y - r, by omega⟩
      have hX2 : X < 512 := by omega
      have HXX := hid hX
      clear hX
      go_wp2_with fail
      go_quiet (fail)
      rw [HXX.out]
      go_wp2_with fail
      have hr' : ∃ r' : Nat, r' ≤ 1 ∧ (1 - (X : Int) / 256) = (r' : Int) ∧ X % 256 + y + r = x + r' * 256 := by
        have := HXX.out
        exact ⟨1 - X / 256, by omega, by omega, by omega⟩
      obtain ⟨r', hr1, hr2, hr3⟩ := hr'
      have hst := minus_step (B := 256) (c := c) (b := b) (k := k) (x := X % 256) (by rw [HCL.out]; omega) HV.out (by rw [HBL.out]; omega) (by rw [HX.out, HY.out]; exact hr3)
      have hXm : ((X : Int) % 256) = ((X % 256 : Nat) : Int) := by omega
      refine ⟨⟨k + 1, r', c.set k (X % 256), by omega, by go_num, by rw [hr2], hr1, by simp [HCL.out], All.set hca _ (by omega), hst, ?_, at_setCell_other RB.out (by simp) _, at_setCell_other RZ.out (by simp; omega) _, (RBE.out.setCell (by have := HN.out; simp; omega) _).trans (Dr.below ⟨_, rfl⟩)⟩, by simp [intOf]; omega⟩
      rw [hXm]
      exact ints_store RA.out _ _
    · have hkd : decide ((k : Int) < 32) = false := decide_eq_false (by omega)
      go_upto_region 8 with (fail)
      refine wp_region_list ?_
      refine wp_load_num (by rfl) _ (by rfl) (by rfl) HCL.out rA ?_
      refine wp_store_num (by rfl) _ _ (by rfl) (by rfl) (by rfl) HCL.out RZ.out (by simp [ints_size]) ?_
      have RN := hid (blk_heap (o := .cells (ints .u8 c) 37 (0, 0)) (lt_blk RZ.out))
      have hNle : W.heap.size ≤ N + 1 + 1 := by have := HN.out; omega
      go_wp2_with fail
      refine bodyPost_ret (v := .agg (ints .u8 c)) (results_cell_row Try.results22 _ _ (N + 1 + 1) _ _ _ _ (by rfl) RN.out Try.underlying37 rfl (by rw [info_Num, ints_size, hcl])) rfl ⟨?_, below_blk' RBE.out hNle _⟩
      have hk5 : k = 32 := by omega
      have hv := HV.out
      rw [hk5, List.take_of_length_le (by omega)] at hv
      rw [minus_end hca hcl hle (by have := val_lt ha; rwa [hal] at this) hv hb hbl]

end Go.Proofs.Ytaencgjlneohnaa
