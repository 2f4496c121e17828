/- The walks of the document's numbers: less, minus. The walks of the document's numbers: minus. A region that draws its order, in which just the first two operations may come either way: both ways. The walks of the document's numbers: Order, Of. The walks of the order's Same, Canonical, Clamp. The walks of the document's numbers: Bytes, Canonical, MulAdd. The walk of the document's MulAdd. The walks of Clamp, of the order's and the document's. Montgomery's curve: the multiple, bit by bit. Montgomery's curve: Public. -/
import Derived.Test.YtceljjnohjnepaaM17
import Derived.Test.YtceljjnohjnepaaM02
import Derived.Deep.MidRow
import Derived.Deep.Cut
import Derived.Test.YtceljjnohjnepaaM01
import Derived.Test.YtceljjnohjnepaaM14
import Derived.Test.YtceljjnohjnepaaM04
import Derived.Test.YtceljjnohjnepaaM05
namespace Go.Proofs.Ytceljjnohjnepaa
open Go.RowKit DG

set_option maxRecDepth 100000 in
theorem oref_less (a b : List Nat) (W : World) (ha : All 256 a) (hb : All 256 b) (hal : a.length = 32) (hbl : b.length = 32) :
    Calls Try.prog 68 #[.agg (ints .u8 a), .agg (ints .u8 b)] W fun e w' => e = .returned (.bool (decide (val 256 a < val 256 b))) ∧ Below W.heap.size W w' := by
  have hsa : (ints .u8 a).size = 32 := by rw [ints_size, hal]
  have hsb : (ints .u8 b).size = 32 := by rw [ints_size, hbl]
  go_enter Try.func68, Try.ntmps68
  go_wp2_with fail
  obtain ⟨N, hN⟩ : ∃ N, N = W.heap.size := ⟨_, rfl⟩
  rw [← hN]
  have HN := hid hN
  go_loopw [5] (fun i wr => ∃ k : Nat, k ≤ 32 ∧ i = .int .i64 ((k : Int) - 1) ∧ a.drop k = b.drop k ∧ wr.heap[N]? = some (.cells (ints .u8 a) 65 (0, 0)) ∧ wr.heap[N + 1]? = some (.cells (ints .u8 b) 65 (0, 0)) ∧ Below W.heap.size W wr) (fun i _ => (intOf i + 1).toNat)
  case atStart =>
    refine ⟨32, by omega, rfl, by rw [List.drop_of_length_le (by omega), List.drop_of_length_le (by omega)], alloc_old (alloc_at' hN _), alloc_at' (by simp [hN]) _, below_alloc (below_new _) _⟩
  case round =>
    obtain ⟨k, hk, rfl, hd, rA, rB, rb⟩ := hrel
    have HD := hid hd
    have RBE := hid rb
    have HAL := hid hal
    have HBL := hid hbl
    clear hd rb hN
    match k with
    | 0 =>
      have hkd : decide ((0 : Int) - 1 ≥ 0) = false := decide_eq_false (by omega)
      go_wp2_with fail
      refine bodyPost_ret (v := .bool false) (by simp [results, Try.results68, go_sem]) rfl ⟨?_, RBE.out⟩
      rw [show a = b from by simpa using HD.out]
      simp
    | m + 1 =>
      have he : ((m + 1 : Nat) : Int) - 1 = (m : Int) := by omega
      rw [he]
      have hkd : decide ((m : Int) ≥ 0) = true := decide_eq_true (by omega)
      have hm : m < 32 := by omega
      have hi0 : 0 ≤ (m : Int) := by omega
      have hi1 : (m : Int) < 32 := by omega
      have ca := ints_cell rA (j := m) (by omega)
      have cb := ints_cell rB (j := m) (by omega)
      have hx := ha.getD (j := m) (by omega)
      have hy := hb.getD (j := m) (by omega)
      have RA := hid rA
      have RB := hid rB
      clear rA rB
      generalize hxa : a.getD m 0 = x at *
      generalize hyb : b.getD m 0 = y at *
      have HX := hid hxa
      have HY := hid hyb
      clear hxa hyb hal hbl hsa hsb
      go_wp2_with fail
      go_quiet (fail)
      by_cases hxy : x = y
      · have hne : (((x : Int) != (y : Int))) = false := by simp [hxy]
        go_wp2_with fail
        exact ⟨⟨m, by omega, rfl, odrop_step (by have := HAL.out; omega) (HAL.out.trans HBL.out.symm) HD.out (by rw [HX.out, HY.out, hxy]), RA.out, RB.out, RBE.out.trans (Dr.below ⟨_, rfl⟩)⟩, by simp [intOf]⟩
      · have hne : (((x : Int) != (y : Int))) = true := by simp [bne_iff_ne]; omega
        go_wp2_with fail
        go_quiet (fail)
        go_wp2_with fail
        refine bodyPost_ret (v := .bool (decide (x < y))) (by simp [results, Try.results68, go_sem]) rfl ⟨?_, ?_⟩
        · have := oless_iff ha hb (HAL.out.trans HBL.out.symm) (k := m) (by have := HAL.out; omega) HD.out (by rw [HX.out, HY.out]; exact hxy)
          rw [HX.out, HY.out] at this
          rw [this]
        · exact RBE.out.trans ((Dr.below ⟨_, rfl⟩).trans (Dr.below ⟨_, rfl⟩))


end Go.Proofs.Ytceljjnohjnepaa

namespace Go.Proofs.Ytceljjnohjnepaa
open Go.RowKit DG

set_option maxRecDepth 100000 in
theorem info_RNum : (Try.prog.info? 65).map (·.size) = some 32 := by kernel_rfl
set_option maxRecDepth 100000 in
theorem row_range {w : World} {b : Nat} {k : IntKind} {l : List Nat} {T : TypeId} {fz : Nat × Nat} (h : w.heap[b]? = some (.cells (ints k l) T fz)) : w.rangeAt b 0 (l.map fun (x : Nat) => Value.int k (x : Int)) := fun j v hv => by
  rw [Nat.zero_add, cell_at h]
  simpa [ints] using hv
set_option maxRecDepth 100000 in
theorem load_num {w : World} {b : Nat} {l : List Nat} {T : TypeId} {fz : Nat × Nat} (hl : l.length = 32) (h : w.heap[b]? = some (.cells (ints .u8 l) T fz)) :
    (Instr.loadAt 65 (.pointer (some ⟨b, 0, none⟩))).run Try.prog w = .ok (.agg (ints .u8 l)) w :=
  run_loadAt_mid w b 0 65 _ _ (row_range h) Try.underlying65 rfl (by rw [info_RNum]; simp [hl])
set_option maxRecDepth 100000 in
theorem setCells_blk (vs : List Value) : ∀ (w : World) (b : Nat) (pre old post : List Value) (T : TypeId) (fz : Nat × Nat), w.heap[b]? = some (.cells (pre ++ old ++ post).toArray T fz) → old.length = vs.length →
    w.setCells b pre.length vs = blk w b (.cells (pre ++ vs ++ post).toArray T fz) := by
  induction vs with
  | nil =>
    intro w b pre old post T fz h hl
    have : old = [] := List.length_eq_zero_iff.1 hl
    subst this
    exact (blk_self h).symm
  | cons v vs ih =>
    intro w b pre old post T fz h hl
    match old, hl with
    | o :: old, hl =>
      have h1 := at_setCell h pre.length v
      have e : ((pre ++ (o :: old) ++ post).toArray.setIfInBounds pre.length v) = ((pre ++ [v]) ++ old ++ post).toArray := by
        rw [List.setIfInBounds_toArray]; simp
      rw [e] at h1
      have h2 := ih (w.setCell ⟨b, pre.length, none⟩ v) b (pre ++ [v]) old post T fz h1 (by simpa using hl)
      rw [List.length_append, List.length_singleton] at h2
      rw [World.setCells, h2, setCell_blk h, blk_blk]
      simp
set_option maxRecDepth 100000 in
theorem there_row {w : World} {b n : Nat} {c : Array Value} {T : TypeId} (h : w.heap[b]? = some (.cells c T (0, 0))) (hn : n ≤ c.size) : w.there b 0 n := fun j hj => by
  rw [Nat.zero_add, cell_at h, free_at h]
  simp; omega
set_option maxRecDepth 100000 in
theorem store_num {w : World} {b : Nat} {l : List Nat} {c : Array Value} {T : TypeId} (hl : l.length = 32) (h : w.heap[b]? = some (.cells c T (0, 0))) (hc : c.size = 32) :
    (Instr.storeAt 65 (.pointer (some ⟨b, 0, none⟩)) (.agg (ints .u8 l))).run Try.prog w = .ok () (blk w b (.cells (ints .u8 l) T (0, 0))) := by
  have h1 := run_storeAt_mid (P := Try.prog) w b 0 65 (ints .u8 l) (there_row h (by rw [ints_size]; omega)) (by rw [info_RNum, ints_size, hl]) (by
    rw [Array.all_eq_true_iff_forall_mem]
    intro v hv
    simp only [ints, List.mem_toArray, List.mem_map] at hv
    obtain ⟨x, _, rfl⟩ := hv
    rfl)
  rw [h1]
  have h2 := setCells_blk (ints .u8 l).toList w b [] c.toList [] T (0, 0) (by simpa using h) (by simp [ints_size, hl, hc])
  simp only [List.length_nil, List.nil_append, List.append_nil] at h2
  rw [h2]

set_option maxRecDepth 100000 in
theorem ints_one (l : List Nat) : (ints .u8 l).all (·.oneCell') = true := by
  rw [Array.all_eq_true_iff_forall_mem]
  intro v hv
  simp only [ints, List.mem_toArray, List.mem_map] at hv
  obtain ⟨x, _, rfl⟩ := hv
  rfl
section
variable {ops : Array Oper} {rest : List Oper} {op : Oper} {a : Act} {w : World} {Q : Exit → Act → World → Prop}
set_option maxRecDepth 100000 in
theorem wp_load_num (hgd : op.guard = none) (x : Operand) (ho : op.op = .load 65 x) {b : Nat} (hx : a.eval x = .pointer (some ⟨b, 0, none⟩)) {l : List Nat} {T : TypeId} {fz : Nat × Nat}
    (hl : l.length = 32) (h : w.heap[b]? = some (.cells (ints .u8 l) T fz)) (k : wpList Try.prog ops Q rest (a.put op.dst (.agg (ints .u8 l))) w) : wpList Try.prog ops Q (op :: rest) a w :=
  wpList_load_mid hgd 65 x ho b 0 hx _ _ (row_range h) Try.underlying65 rfl (by rw [info_RNum]; simp [hl]) k
set_option maxRecDepth 100000 in
theorem wp_store_num (hgd : op.guard = none) (x y : Operand) (ho : op.op = .store 65 x y) {b : Nat} (hx : a.eval x = .pointer (some ⟨b, 0, none⟩)) {l : List Nat} {c : Array Value} {T : TypeId} (hy : a.eval y = .agg (ints .u8 l))
    (hl : l.length = 32) (h : w.heap[b]? = some (.cells c T (0, 0))) (hc : c.size = 32) (k : wpList Try.prog ops Q rest (a.put op.dst undef) (blk w b (.cells (ints .u8 l) T (0, 0)))) : wpList Try.prog ops Q (op :: rest) a w := by
  refine wpList_store_mid hgd 65 x y ho b 0 (ints .u8 l) hx hy (there_row h (by rw [ints_size]; omega)) (by rw [info_RNum, ints_size, hl]) (ints_one l) ?_
  have h2 := setCells_blk (ints .u8 l).toList w b [] c.toList [] T (0, 0) (by simpa using h) (by simp [ints_size, hl, hc])
  simp only [List.length_nil, List.nil_append, List.append_nil] at h2
  rw [h2]
  exact k
end

set_option maxRecDepth 100000 in
theorem oref_minus (a b : List Nat) (W : World) (ha : All 256 a) (hb : All 256 b) (hal : a.length = 32) (hbl : b.length = 32) (hle : val 256 b ≤ val 256 a) :
    Calls Try.prog 70 #[.agg (ints .u8 a), .agg (ints .u8 b)] W fun e w' => e = .returned (.agg (ints .u8 (digs 256 (val 256 a - val 256 b) 32))) ∧ Below W.heap.size W w' := by
  have hsa : (ints .u8 a).size = 32 := by rw [ints_size, hal]
  have hsb : (ints .u8 b).size = 32 := by rw [ints_size, hbl]
  go_enter Try.func70, Try.ntmps70
  go_wp2_with fail
  obtain ⟨N, hN⟩ : ∃ N, N = W.heap.size := ⟨_, rfl⟩
  rw [← hN]
  have HN := hid hN
  have hz : #[.int .u8 0, .int .u8 0, .int .u8 0, .int .u8 0, .int .u8 0, .int .u8 0, .int .u8 0, .int .u8 0, .int .u8 0, .int .u8 0, .int .u8 0, .int .u8 0, .int .u8 0, .int .u8 0, .int .u8 0, .int .u8 0, .int .u8 0, .int .u8 0, .int .u8 0, .int .u8 0, .int .u8 0, .int .u8 0, .int .u8 0, .int .u8 0, .int .u8 0, .int .u8 0, .int .u8 0, .int .u8 0, .int .u8 0, .int .u8 0, .int .u8 0, .int .u8 0] = ints .u8 (List.replicate 32 0) := rfl
  rw [hz]
  have HAL := hid hal
  have HBL := hid hbl
  go_loopw [5, 6] (fun cy i wr => ∃ (k r : Nat) (c : List Nat), k ≤ 32 ∧ i = .int .i64 (k : Int) ∧ cy = .int .i64 (r : Int) ∧ r ≤ 1 ∧ c.length = 32 ∧ All 256 c ∧ val 256 c + val 256 (b.take k) = val 256 a + r * 256 ^ k ∧
    wr.heap[N]? = some (.cells (ints .u8 c) 65 (0, 0)) ∧ wr.heap[N + 1]? = some (.cells (ints .u8 b) 65 (0, 0)) ∧ wr.heap[N + 1 + 1]? = some (.cells (ints .u8 (List.replicate 32 0)) 65 (0, 0)) ∧ Below W.heap.size W wr) (fun _ i _ => (32 - intOf i).toNat)
  case atStart =>
    refine ⟨0, 0, a, by omega, rfl, rfl, by omega, hal, ha, by simp [val], alloc_old (alloc_old (alloc_at' hN _)), alloc_old (alloc_at' (by simp [hN]) _), alloc_at' (by simp [hN]) _, below_alloc (below_alloc (below_new _) _) _⟩
  case round =>
    clear hN hz
    obtain ⟨k, r, c, hk, rfl, rfl, hr, hcl, hca, hv, rA, rB, rZ, rb⟩ := hrel
    have HV := hid hv
    have RBE := hid rb
    have RZ := hid rZ
    have HCL := hid hcl
    clear hv rb rZ
    by_cases hk32 : k < 32
    · have hkd : decide ((k : Int) < 32) = true := decide_eq_true (by omega)
      have hi0 : 0 ≤ (k : Int) := by omega
      have hi1 : (k : Int) < 32 := by omega
      have cc := ints_cell rA (j := k) (by omega)
      have cb := ints_cell rB (j := k) (by omega)
      have hx := hca.getD (j := k) (by omega)
      have hy := hb.getD (j := k) (by omega)
      have hfa := free_at rA
      have RA := hid rA
      have RB := hid rB
      clear rA rB
      generalize hxa : c.getD k 0 = x at *
      generalize hyb : b.getD k 0 = y at *
      have HX := hid hxa
      have HY := hid hyb
      clear hxa hyb hal hbl hsa hsb hcl
      obtain ⟨X, hX⟩ : ∃ X : Nat, (256 + (x : Int) - (y : Int) - (r : Int)) = (X : Int) := ⟨256 + x - y - r, by omega⟩
      have hX2 : X < 512 := by omega
      have HXX := hid hX
      clear hX
      go_wp2_with fail
      go_quiet (fail)
      rw [HXX.out]
      go_wp2_with fail
      have hr' : ∃ r' : Nat, r' ≤ 1 ∧ (1 - (X : Int) / 256) = (r' : Int) ∧ X % 256 + y + r = x + r' * 256 := by
        have := HXX.out
        exact ⟨1 - X / 256, by omega, by omega, by omega⟩
      obtain ⟨r', hr1, hr2, hr3⟩ := hr'
      have hst := minus_step (B := 256) (c := c) (b := b) (k := k) (x := X % 256) (by rw [HCL.out]; omega) HV.out (by rw [HBL.out]; omega) (by rw [HX.out, HY.out]; exact hr3)
      have hXm : ((X : Int) % 256) = ((X % 256 : Nat) : Int) := by omega
      refine ⟨⟨k + 1, r', c.set k (X % 256), by omega, by go_num, by rw [hr2], hr1, by simp [HCL.out], All.set hca _ (by omega), hst, ?_, at_setCell_other RB.out (by simp) _, at_setCell_other RZ.out (by simp; omega) _, (RBE.out.setCell (by have := HN.out; simp; omega) _).trans (Dr.below ⟨_, rfl⟩)⟩, by simp [intOf]; omega⟩
      rw [hXm]
      exact ints_store RA.out _ _
    · have hkd : decide ((k : Int) < 32) = false := decide_eq_false (by omega)
      go_upto_region 8 with (fail)
      refine wp_region_list ?_
      refine wp_load_num (by rfl) _ (by rfl) (by rfl) HCL.out rA ?_
      refine wp_store_num (by rfl) _ _ (by rfl) (by rfl) (by rfl) HCL.out RZ.out (by simp [ints_size]) ?_
      have RN := hid (blk_heap (o := .cells (ints .u8 c) 65 (0, 0)) (lt_blk RZ.out))
      have hNle : W.heap.size ≤ N + 1 + 1 := by have := HN.out; omega
      go_wp2_with fail
      refine bodyPost_ret (v := .agg (ints .u8 c)) (results_cell_row Try.results70 _ _ (N + 1 + 1) _ _ _ _ (by rfl) RN.out Try.underlying65 rfl (by rw [info_RNum, ints_size, hcl])) rfl ⟨?_, below_blk' RBE.out hNle _⟩
      have hk5 : k = 32 := by omega
      have hv := HV.out
      rw [hk5, List.take_of_length_le (by omega)] at hv
      rw [minus_end hca hcl hle (by have := val_lt ha; rwa [hal] at this) hv hb hbl]

end Go.Proofs.Ytceljjnohjnepaa

namespace Go.Proofs.Ytceljjnohjnepaa
open Go Go.RowKit
variable {P : Program} {Q : Exit → Act → World → Prop} {a : Act} {w : World}
set_option maxRecDepth 100000 in
theorem wp_region_two {id : Nat} {o0 o1 : Oper} {l : List Oper} (hm : P.follows .mixedOrders = true)
    (hr : Region.ready .any (o0 :: o1 :: l).toArray (Array.replicate (l.length + 2) false) = [0, 1])
    (hs1 : Region.seqB .any (o0 :: o1 :: l).toArray (l.length + 1) 1 ((Array.replicate (l.length + 2) false).setIfInBounds 0 true) = true)
    (hr2 : Region.ready .any (o0 :: o1 :: l).toArray ((Array.replicate (l.length + 2) false).setIfInBounds 1 true) = [0])
    (hs2 : Region.seqB .any (o0 :: o1 :: l).toArray l.length 2 (((Array.replicate (l.length + 2) false).setIfInBounds 1 true).setIfInBounds 0 true) = true)
    (h1 : wpList P (o0 :: o1 :: l).toArray Q (o0 :: o1 :: l) a w.drew) (h2 : wpList P (o0 :: o1 :: l).toArray Q (o1 :: o0 :: l) a w.drew) : (Code.region id (o0 :: o1 :: l).toArray true).wp P Q a w := by
  refine wp_region_any hm ?_
  show wpAny P .any (o0 :: o1 :: l).toArray Q (l.length + 1 + 1) (Array.replicate (l.length + 2) false) a w.drew
  refine ⟨fun h0 => (by rw [hr] at h0; cases h0), fun i hi => ?_⟩
  rw [hr] at hi
  have hi' : i = 0 ∨ i = 1 := by simpa using hi
  rcases hi' with rfl | rfl
  · have hw : wpOp P (o0 :: o1 :: l).toArray Q 0 (wpList P (o0 :: o1 :: l).toArray Q (o1 :: l)) a w.drew := by unfold wpOp; exact h1
    exact wpOp_mono (fun a' w' h' => wpAny_of_seq (o1 :: l) 1 _ a' w' (fun j => by simp [Nat.add_comm 1 j]) hs1 h') hw
  · have hw : wpOp P (o0 :: o1 :: l).toArray Q 1 (wpList P (o0 :: o1 :: l).toArray Q (o0 :: l)) a w.drew := by unfold wpOp; exact h2
    refine wpOp_mono (fun a' w' h' => ?_) hw
    refine ⟨fun h0 => (by rw [hr2] at h0; cases h0), fun i hi => ?_⟩
    rw [hr2] at hi
    have hi' : i = 0 := by simpa using hi
    subst hi'
    have hw2 : wpOp P (o0 :: o1 :: l).toArray Q 0 (wpList P (o0 :: o1 :: l).toArray Q l) a' w' := by unfold wpOp; exact h'
    exact wpOp_mono (fun a' w' h' => wpAny_of_seq l 2 _ a' w' (fun j => by simp [Nat.add_comm 2 j]) hs2 h') hw2
end Go.Proofs.Ytceljjnohjnepaa

namespace Go.Proofs.Ytceljjnohjnepaa
open Go.RowKit DG

section
variable {ops : Array Oper} {rest : List Oper} {op : Oper} {a : Act} {w : World} {Q : Exit → Act → World → Prop}
set_option maxRecDepth 100000 in
theorem owp_build (hgd : op.guard = none) (t : TypeId) (parts : Array (Nat × Operand)) (ho : op.op = .build t parts) (cells : Array Value) (h : Try.prog.built t (parts.map fun (i, x) => (i, a.eval x)).toList = some cells)
    (k : wpList Try.prog ops Q rest (a.put op.dst (.agg cells)) w) : wpList Try.prog ops Q (op :: rest) a w :=
  wpList_plain hgd fun _ hK => by
    unfold Oper.wp execOp
    simp only [ho, Sem.run_bind, Sem.run_pure, Result.andThen_ok, run_build w t _ cells h]
    exact hK _ _ k
end

set_option maxRecDepth 100000 in
theorem ordL_row : digs 256 ordL 32 = [237, 211, 245, 92, 26, 99, 18, 88, 214, 156, 247, 162, 222, 249, 222, 20, 0, 0, 0, 0, 0, 0, 0, 0, 0, 0, 0, 0, 0, 0, 0, 16] := by decide +kernel

set_option maxRecDepth 100000 in
theorem ref_Order (W : World) : Calls Try.prog 69 #[] W fun e w' => e = .returned (.agg (ints .u8 (digs 256 ordL 32))) ∧ Below W.heap.size W w' := by
  rw [ordL_row]
  go_enter Try.func69, Try.ntmps69
  go_upto_region 1 with (fail)
  refine wp_region_list ?_
  refine owp_build (by rfl) _ _ (by rfl) (ints .u8 [237, 211, 245, 92, 26, 99, 18, 88, 214, 156, 247, 162, 222, 249, 222, 20, 0, 0, 0, 0, 0, 0, 0, 0, 0, 0, 0, 0, 0, 0, 0, 16]) (by kernel_rfl) ?_
  refine wp_store_num (by rfl) _ _ (by rfl) (by rfl) (by rfl) (by rfl) (alloc_at _ _) (by rfl) ?_
  have RN := hid (blk_heap (w := W.alloc (.cells (ints .u8 (List.replicate 32 0)) 65)) (b := W.heap.size) (o := .cells (ints .u8 [237, 211, 245, 92, 26, 99, 18, 88, 214, 156, 247, 162, 222, 249, 222, 20, 0, 0, 0, 0, 0, 0, 0, 0, 0, 0, 0, 0, 0, 0, 0, 16]) 65 (0, 0)) (lt_blk (alloc_at _ _)))
  go_wp2_with fail
  refine bodyPost_ret (v := .agg (ints .u8 [237, 211, 245, 92, 26, 99, 18, 88, 214, 156, 247, 162, 222, 249, 222, 20, 0, 0, 0, 0, 0, 0, 0, 0, 0, 0, 0, 0, 0, 0, 0, 16])) (results_cell_row Try.results69 _ _ (W.heap.size) _ _ _ _ (by rfl) RN.out Try.underlying65 rfl (by rw [info_RNum]; rfl)) rfl ⟨rfl, below_blk' (below_new _) (Nat.le_refl _) _⟩

set_option maxRecDepth 100000 in
/-- One digit of doubling. -/
theorem dbl_step {B : Nat} {c l : List Nat} {k cr cr' d bit : Nat} (hk : k < c.length) (hl : l.length = c.length) (hd : c.drop k = l.drop k)
    (h : val B c + cr * B ^ k = val B l + val B (l.take k) + bit) (hx : d + cr' * B = 2 * c.getD k 0 + cr) :
    val B (c.set k d) + cr' * B ^ (k + 1) = val B l + val B (l.take (k + 1)) + bit := by
  have h1 := val_set (B := B) hk d
  have hkl : k < l.length := by omega
  have he : c.getD k 0 = l.getD k 0 := by
    have := congrArg (fun (m : List Nat) => m.getD 0 0) hd
    simpa [List.getD_eq_getElem?_getD] using this
  have h2 : val B (l.take (k + 1)) = val B (l.take k) + l.getD k 0 * B ^ k := by
    rw [List.take_succ_eq_append_getElem hkl, val_append, List.length_take, Nat.min_eq_left (by omega), getD_at hkl]
    simp [val, Nat.mul_comm]
  have h3 : (d + cr' * B) * B ^ k = (2 * c.getD k 0 + cr) * B ^ k := by rw [hx]
  rw [Nat.add_mul, Nat.add_mul, Nat.mul_assoc, ← Nat.pow_succ', Nat.succ_eq_add_one, Nat.two_mul, Nat.add_mul] at h3
  rw [h2, ← he]
  omega
set_option maxRecDepth 100000 in
theorem dbl_end {c : List Nat} {cr m : Nat} (hc : All 256 c) (hn : c.length = 32) (hm : m < ordL) (b : Nat) (hb : b ≤ 1) (h : val 256 c + cr * 256 ^ 32 = m + m + b) : c = digs 256 (2 * m + b) 32 := by
  have hr : cr = 0 := by
    rcases Nat.eq_zero_or_pos cr with h0 | h0
    · exact h0
    · have h1 : 1 * 256 ^ 32 ≤ cr * 256 ^ 32 := Nat.mul_le_mul_right _ h0
      have h2 : 2 * ordL < 256 ^ 32 := by decide
      omega
  subst hr
  have hv : val 256 c = 2 * m + b := by omega
  rw [← hv, ← hn, digs_val hc]

set_option maxRecDepth 100000 in
theorem oand1_shr8 (x r : Nat) (hx : x < 256) : bits .and .u8 ((x : Int) / (2 : Int) ^ r) 1 = ((x / 2 ^ r % 2 : Nat) : Int) := by
  have e : ((x : Int) / (2 : Int) ^ r) = ((x / 2 ^ r : Nat) : Int) := by rw [Int.natCast_ediv, Int.natCast_pow]; rfl
  have hle : x / 2 ^ r ≤ x := Nat.div_le_self _ _
  rw [e, show (1 : Int) = ((1 : Nat) : Int) from rfl, u8_and_nat _ _ (by omega) (by decide), nat_mask1]
set_option maxRecDepth 100000 in
theorem obit_of_bytes (l : List UInt8) (m : Nat) (h : m < 8 * l.length) : bytesNat l / 2 ^ m % 2 = (l.getD (m / 8) 0).toNat / 2 ^ (m % 8) % 2 := by
  have := bit_digit (w := 8) (l := l.map (·.toNat)) (bytes_all l) m (by decide) (by simpa using h)
  unfold bytesNat
  rw [show (256 : Nat) = 2 ^ 8 from rfl, this]
  have hj : m / 8 < l.length := by omega
  simp [hj]
set_option maxRecDepth 100000 in
theorem dbl_byte (x c : Nat) (_hx : x < 256) (hc : c ≤ 1) : bits .or .u8 ((x : Int) * 2 % 256) (c : Int) = (((2 * x + c) % 256 : Nat) : Int) := by
  rw [show ((x : Int) * 2 % 256) = ((2 * x % 256 : Nat) : Int) by omega, u8_or_nat _ _ (by omega) (by omega), nat_join 1 _ _ (by omega) (by omega)]
  omega

set_option maxRecDepth 100000 in
theorem drop_set_succ {c l : List Nat} {k d : Nat} (h : c.drop k = l.drop k) : (c.set k d).drop (k + 1) = l.drop (k + 1) := by
  have h2 : c.drop (k + 1) = l.drop (k + 1) := by rw [← List.drop_drop, ← List.drop_drop, h]
  rw [List.drop_set, if_pos (by omega), h2]
set_option maxRecDepth 100000 in
theorem range_below {w w' : World} {b : Nat} {cs : List Value} (h : w.rangeAt b 0 cs) (hb : b < w.heap.size) (hB : Below w.heap.size w w') : w'.rangeAt b 0 cs := fun j v hv => (hB.cell (p := ⟨b, 0 + j, none⟩) hb).trans (h j v hv)

set_option maxRecDepth 100000 in
theorem keepS {W1 w1 w2 : World} {b : Nat} {cs : List Value} (h : w1.rangeAt b 0 cs) (hB : Below W1.heap.size W1 w1) (hlt : b < W1.heap.size) (hb : Below w1.heap.size w1 w2) : w2.rangeAt b 0 cs ∧ Below W1.heap.size W1 w2 :=
  ⟨range_below h (Nat.lt_of_lt_of_le hlt hB.size) hb, below_to hB hb⟩

set_option maxRecDepth 100000 in
set_option maxHeartbeats 1000000 in
theorem oref_Of (s : ByteArray) (W : World) (hmax : 8 * s.size ≤ 9223372036854775807) :
    Calls Try.prog 33 #[.string s] W fun e w' => e = .returned (.agg (ints .u8 (digs 256 (bytesNat s.data.toList % ordL) 32))) ∧ Below W.heap.size W w' := by
  obtain ⟨n0, hn0⟩ : ∃ n0, bytesNat s.data.toList = n0 := ⟨_, rfl⟩
  rw [hn0]
  have HN0 := hid hn0
  clear hn0
  go_enter Try.func33, Try.ntmps33
  go_wp2_with fail
  obtain ⟨N, hN⟩ : ∃ N, N = W.heap.size := ⟨_, rfl⟩
  rw [← hN]
  have HN := hid hN
  have hz : #[.int .u8 0, .int .u8 0, .int .u8 0, .int .u8 0, .int .u8 0, .int .u8 0, .int .u8 0, .int .u8 0, .int .u8 0, .int .u8 0, .int .u8 0, .int .u8 0, .int .u8 0, .int .u8 0, .int .u8 0, .int .u8 0, .int .u8 0, .int .u8 0, .int .u8 0, .int .u8 0, .int .u8 0, .int .u8 0, .int .u8 0, .int .u8 0, .int .u8 0, .int .u8 0, .int .u8 0, .int .u8 0, .int .u8 0, .int .u8 0, .int .u8 0, .int .u8 0] = ints .u8 (List.replicate 32 0) := rfl
  rw [hz]
  go_loopw [4] (fun i wr => ∃ k : Nat, k ≤ 8 * s.size ∧ i = .int .i64 ((k : Int) - 1) ∧
    wr.heap[N + 1]? = some (.cells (ints .u8 (digs 256 (n0 / 2 ^ k % ordL) 32)) 65 (0, 0)) ∧ wr.heap[N]? = some (.cells (ints .u8 (List.replicate 32 0)) 65 (0, 0)) ∧ Below W.heap.size W wr) (fun i _ => (intOf i + 1).toNat)
  case atStart =>
    refine ⟨8 * s.size, Nat.le_refl _, by simp, ?_, alloc_old (alloc_at' hN _), below_alloc (below_new _) _⟩
    have hlt := bytesNat_lt s.data.toList
    rw [HN0.out, show s.data.toList.length = s.size from by simp, show (256 : Nat) = 2 ^ 8 from rfl, ← Nat.pow_mul] at hlt
    rw [Nat.div_eq_of_lt hlt, Nat.zero_mod]
    exact alloc_at' (by simp [hN]) _
  case round =>
    clear hN hz
    obtain ⟨k, hk, rfl, rR, rZ, rb⟩ := hrel
    have RZ := hid rZ
    have RBE := hid rb
    clear rZ rb
    match k with
    | 0 =>
      have hkd : decide (((0 : Nat) : Int) - 1 ≥ 0) = false := decide_eq_false (by omega)
      have hd0 : digs 256 (n0 / 2 ^ 0 % ordL) 32 = digs 256 (n0 % ordL) 32 := by rw [Nat.pow_zero, Nat.div_one]
      rw [hd0] at rR
      have hNle : W.heap.size ≤ N := by have := HN.out; omega
      go_upto_region 14 with (fail)
      refine wp_region_list ?_
      refine wp_load_num (l := digs 256 (n0 % ordL) 32) (by rfl) _ (by rfl) (by rfl) (by rw [digs_length]) (b := N + 1) (by exact rR) ?_
      refine wp_store_num (l := digs 256 (n0 % ordL) 32) (by rfl) _ _ (by rfl) (by rfl) (by rfl) (by rw [digs_length]) (by exact RZ.out) (by simp [ints_size]) ?_
      have RN := hid (blk_heap (o := .cells (ints .u8 (digs 256 (n0 % ordL) 32)) 65 (0, 0)) (lt_blk RZ.out))
      go_wp2_with fail
      exact bodyPost_ret (v := .agg (ints .u8 (digs 256 (n0 % ordL) 32))) (results_cell_row Try.results33 _ _ N _ _ _ _ (by rfl) RN.out Try.underlying65 rfl (by rw [info_RNum, ints_size, digs_length])) rfl ⟨rfl, below_blk' RBE.out hNle _⟩
    | m + 1 =>
      rw [show ((m + 1 : Nat) : Int) - 1 = (m : Int) from by omega]
      have hkd : decide ((m : Int) ≥ 0) = true := decide_eq_true (by omega)
      have RR := hid rR
      clear rR
      have hi0 : 0 ≤ (m : Int) / 8 := by omega
      have hi1 : (m : Int) / 8 < s.size := by omega
      have hi2 : ((m : Int) / 8).toNat = m / 8 := by omega
      have hml : m / 8 < s.size := by omega
      have hbit := obit_of_bytes s.data.toList m (by simp; omega)
      have hg : s.data.toList.getD (m / 8) 0 = s[m / 8] := by simp [hml]; rfl
      rw [HN0.out, hg] at hbit
      have hbyte := oand1_shr8 s[m / 8].toNat (m % 8) s[m / 8].toNat_lt
      rw [← hbit] at hbyte
      have HBYTE := hid hbyte
      clear hbit hg hbyte
      go_wp2_with fail
      rw [HBYTE.out]
      obtain ⟨bit, hbt⟩ : ∃ bit, n0 / 2 ^ m % 2 = bit := ⟨_, rfl⟩
      have hb1 : bit ≤ 1 := by omega
      rw [hbt]
      have HBT := hid hbt
      clear hbt HBYTE
      obtain ⟨l, hl⟩ : ∃ l, digs 256 (n0 / 2 ^ (m + 1) % ordL) 32 = l := ⟨_, rfl⟩
      have hvl := val_digs (B := 256) (n0 / 2 ^ (m + 1) % ordL) 32
      rw [Nat.mod_eq_of_lt (a := n0 / 2 ^ (m + 1) % ordL) (b := 256 ^ 32) (Nat.lt_trans (Nat.mod_lt _ (by decide)) (by decide)), hl] at hvl
      have hll : l.length = 32 := by rw [← hl, digs_length]
      have hla : All 256 l := by rw [← hl]; exact digs_all (by decide) _ _
      have rR := RR.out
      rw [hl] at rR
      have RR2 := hid rR
      have HVL := hid hvl
      have HLL := hid hll
      clear hl rR RR hvl hll
      go_loopw [6, 5] (fun i cy wq => ∃ (k cr : Nat) (c : List Nat), k ≤ 32 ∧ i = .int .i64 (k : Int) ∧ cy = .int .u8 (cr : Int) ∧ cr ≤ 1 ∧ c.length = 32 ∧ All 256 c ∧ c.drop k = l.drop k ∧ val 256 c + cr * 256 ^ k = val 256 l + val 256 (l.take k) + bit ∧
        wq.heap[N + 1]? = some (.cells (ints .u8 c) 65 (0, 0)) ∧ wq.heap[N]? = some (.cells (ints .u8 (List.replicate 32 0)) 65 (0, 0)) ∧ Below W.heap.size W wq) (fun i _ _ => (32 - intOf i).toNat)
      case atStart => exact ⟨0, bit, l, by omega, rfl, rfl, hb1, HLL.out, hla, rfl, by simp [val], RR2.out, RZ.out, RBE.out⟩
      case round =>
        obtain ⟨k, cr, c, hk, rfl, rfl, hcr, hcl, hca, hcd, hv, qR, qZ, qb⟩ := hrel
        have HV := hid hv
        have HCD := hid hcd
        have HCL := hid hcl
        have QZ := hid qZ
        have QBE := hid qb
        clear hv hcd qZ qb
        by_cases hk32 : k < 32
        · have hkd : decide ((k : Int) < 32) = true := decide_eq_true (by omega)
          have hj0 : 0 ≤ (k : Int) := by omega
          have hj1 : (k : Int) < 32 := by omega
          have cc := ints_cell qR (j := k) (by omega)
          have hx := hca.getD (j := k) (by omega)
          have hfa := free_at qR
          have QR := hid qR
          clear qR
          generalize hxa : c.getD k 0 = x at *
          have HX := hid hxa
          have hdb := dbl_byte x cr hx hcr
          have HDB := hid hdb
          clear hxa hcl hdb
          go_wp2_with fail
          rw [HDB.out]
          have hst := dbl_step (B := 256) (c := c) (l := l) (k := k) (cr := cr) (cr' := x / 128) (d := (2 * x + cr) % 256) (bit := bit) (by rw [HCL.out]; omega) (HLL.out.trans HCL.out.symm) HCD.out HV.out (by rw [HX.out]; omega)
          have hcx : ((x : Int) / 128) = ((x / 128 : Nat) : Int) := by omega
          rw [hcx]
          exact ⟨⟨k + 1, x / 128, c.set k ((2 * x + cr) % 256), by omega, by go_num, rfl, by omega, by simp [HCL.out], All.set hca _ (by omega), drop_set_succ HCD.out, hst, ints_store QR.out _ _, at_setCell_other QZ.out (by simp) _, QBE.out.setCell (by have := HN.out; simp; omega) _⟩, by simp [intOf]; omega⟩
        · have hkd : decide ((k : Int) < 32) = false := decide_eq_false (by omega)
          have hk5 : k = 32 := by omega
          have hv := HV.out
          rw [hk5, List.take_of_length_le (by rw [HLL.out]; omega), HVL.out] at hv
          have hce := dbl_end hca hcl (Nat.mod_lt _ (by decide)) bit hb1 hv
          have HCE := hid hce
          have QR := hid qR
          have hN1 : N + 1 < wr.heap.size := lt_blk qR
          have hrow := row_range qR
          have hi37 : (Try.prog.info? 65).map (·.size) = some (c.map fun (x : Nat) => Value.int .u8 (x : Int)).length := by rw [info_RNum]; simp [HCL.out]
          have hu37 := Try.underlying65
          have hl32 : (c.map fun (x : Nat) => Value.int .u8 (x : Int)).length = 32 := by simp [HCL.out]
          have hone : ∀ v ∈ (c.map fun (x : Nat) => Value.int .u8 (x : Int)), v.oneCell' = true := by
            intro v hv
            simp only [List.mem_map] at hv
            obtain ⟨x, _, rfl⟩ := hv
            rfl
          have hv2 : val 256 c = 2 * (n0 / 2 ^ (m + 1) % ordL) + bit := by
            rw [hce, val_digs]
            exact Nat.mod_eq_of_lt (by have h1 : n0 / 2 ^ (m + 1) % ordL < ordL := Nat.mod_lt _ (by decide)
                                       have h2 : 2 * ordL < 256 ^ 32 := by decide
                                       omega)
          clear hv hce hk5 qR
          go_wp2_with fail
          go_region_held3 (fun w' => w'.rangeAt (N + 1) 0 (c.map fun (x : Nat) => Value.int .u8 (x : Int)) ∧ Below wr.heap.size wr w') (first | exact ⟨by simpa using hrow, (Below.refl _ _).drew⟩ | (go_split_ands; exact keepS (by assumption) (by assumption) hN1 (by assumption)))
            (first | (go_at_call 69; refine (ref_Order _).mono ?_; rintro e w2 ⟨rfl, hb2⟩) | (go_at_call 68; refine (oref_less c _ _ hca (digs_all (by decide) _ _) (by exact HCL.out) (by rw [digs_length])).mono ?_; rintro e w3 ⟨rfl, hb3⟩))
          rename_i hH
          obtain ⟨_, hbw⟩ := hH
          clear hi37 hu37 hl32 hone hrow hb2 hb3
          have hvo : val 256 (digs 256 ordL 32) = ordL := by rw [val_digs]; decide
          rw [hvo]
          have q3 := (hbw.block _ hN1).trans QR.out
          have z3 := (hbw.block _ (lt_blk QZ.out)).trans QZ.out
          have be3 := below_to QBE.out hbw
          have hos := of_step n0 (m + 1) (by omega)
          rw [show m + 1 - 1 = m by omega, HBT.out] at hos
          have HOS := hid hos
          have Q3 := hid q3
          have Z3 := hid z3
          have BE3 := hid be3
          clear q3 z3 be3 hbw hos
          have hrl : n0 / 2 ^ (m + 1) % ordL < ordL := Nat.mod_lt _ (by decide)
          obtain ⟨R, hR⟩ : ∃ R, n0 / 2 ^ (m + 1) % ordL = R := ⟨_, rfl⟩
          rw [hR] at hrl hv2
          rw [hR]
          have HOS2 := HOS.out
          have HCE2 := HCE.out
          rw [hR] at HOS2 HCE2
          have HOS3 := hid HOS2
          have HCE3 := hid HCE2
          have HV2 := hid hv2
          clear HOS HOS2 HCE HCE2 hR hv2
          by_cases hlt : 2 * R + bit < ordL
          · have hd : (!decide (2 * R + bit < ordL)) = false := by simp [hlt]
            rw [hd]
            go_wp2_with fail
            refine ⟨⟨m, by omega, rfl, ?_, Z3.out, BE3.out⟩, by simp [intOf]⟩
            rw [← HOS3.out, Nat.mod_eq_of_lt hlt, ← HCE3.out]
            exact Q3.out
          · have hd : (!decide (2 * R + bit < ordL)) = true := by simp [hlt]
            rw [hd]
            go_wp2_with fail
            have hsum : n0 / 2 ^ m % ordL = val 256 c - val 256 (digs 256 ordL 32) := by
              rw [hvo, HV2.out, ← HOS3.out, Nat.mod_eq_sub_mod (by omega), Nat.mod_eq_of_lt (by omega)]
            have HSUM := hid hsum
            have hle : val 256 (digs 256 ordL 32) ≤ val 256 c := by rw [hvo, HV2.out]; omega
            have HLE := hid hle
            have HVO := hid hvo
            clear hsum hle hvo hlt hd
            refine wp_region_two (by rfl) (by kernel_rfl) (by kernel_rfl) (by kernel_rfl) (by kernel_rfl) ?_ ?_
            · refine wp_load_num (by rfl) _ (by rfl) (by rfl) HCL.out (b := N + 1) (by exact Q3.out) ?_
              go_wp2_with fail
              refine (ref_Order _).mono ?_
              rintro e w4 ⟨rfl, hb4⟩
              have q4 := (hb4.block (N + 1) (lt_blk Q3.out)).trans Q3.out
              have z4 := (hb4.block N (lt_blk Z3.out)).trans Z3.out
              have be4 := below_to BE3.out.drew hb4
              have Q4 := hid q4
              have Z4 := hid z4
              have BE4 := hid be4
              clear q4 z4 be4 hb4
              go_wp2_with fail
              refine (oref_minus c (digs 256 ordL 32) _ hca (digs_all (by decide) _ _) HCL.out (by rw [digs_length]) HLE.out).mono ?_
              rintro e w5 ⟨rfl, hb5⟩
              have q5 := (hb5.block (N + 1) (lt_blk Q4.out)).trans Q4.out
              have z5 := (hb5.block N (lt_blk Z4.out)).trans Z4.out
              have be5 := below_to BE4.out hb5
              have hNle : W.heap.size ≤ N + 1 := by have := HN.out; omega
              rename_i hK
              refine hK _ _ ?_
              refine wp_store_num (l := digs 256 (val 256 c - val 256 (digs 256 ordL 32)) 32) (by rfl) _ _ (by rfl) (by rfl) (by rfl) (by rw [digs_length]) (b := N + 1) (by exact q5) (by rw [ints_size, HCL.out]) ?_
              have q6 := blk_heap (o := .cells (ints .u8 (digs 256 (val 256 c - val 256 (digs 256 ordL 32)) 32)) 65 (0, 0)) (lt_blk q5)
              rw [← HSUM.out] at q6 ⊢
              have Q6 := hid q6
              have Z6 := hid ((blk_other (o := .cells (ints .u8 (digs 256 (n0 / 2 ^ m % ordL) 32)) 65 (0, 0)) (w := w5) (b := N + 1) N (by omega)).trans z5)
              have BE6 := hid (below_blk' be5 hNle (.cells (ints .u8 (digs 256 (n0 / 2 ^ m % ordL) 32)) 65 (0, 0)))
              clear q5 z5 be5 q6 hb5
              go_wp2_with fail
              exact ⟨⟨m, by omega, rfl, Q6.out, Z6.out, BE6.out⟩, by simp [intOf]⟩
            · go_wp2_with fail
              refine (ref_Order _).mono ?_
              rintro e w4 ⟨rfl, hb4⟩
              have q4 := (hb4.block (N + 1) (lt_blk Q3.out)).trans Q3.out
              have z4 := (hb4.block N (lt_blk Z3.out)).trans Z3.out
              have be4 := below_to BE3.out.drew hb4
              rename_i hK
              refine hK _ _ ?_
              refine wp_load_num (by rfl) _ (by rfl) (by rfl) HCL.out (b := N + 1) (by exact q4) ?_
              have Q4 := hid q4
              have Z4 := hid z4
              have BE4 := hid be4
              clear q4 z4 be4 hb4
              go_wp2_with fail
              refine (oref_minus c (digs 256 ordL 32) _ hca (digs_all (by decide) _ _) HCL.out (by rw [digs_length]) HLE.out).mono ?_
              rintro e w5 ⟨rfl, hb5⟩
              have q5 := (hb5.block (N + 1) (lt_blk Q4.out)).trans Q4.out
              have z5 := (hb5.block N (lt_blk Z4.out)).trans Z4.out
              have be5 := below_to BE4.out hb5
              have hNle : W.heap.size ≤ N + 1 := by have := HN.out; omega
              rename_i hK
              refine hK _ _ ?_
              refine wp_store_num (l := digs 256 (val 256 c - val 256 (digs 256 ordL 32)) 32) (by rfl) _ _ (by rfl) (by rfl) (by rfl) (by rw [digs_length]) (b := N + 1) (by exact q5) (by rw [ints_size, HCL.out]) ?_
              have q6 := blk_heap (o := .cells (ints .u8 (digs 256 (val 256 c - val 256 (digs 256 ordL 32)) 32)) 65 (0, 0)) (lt_blk q5)
              rw [← HSUM.out] at q6 ⊢
              have Q6 := hid q6
              have Z6 := hid ((blk_other (o := .cells (ints .u8 (digs 256 (n0 / 2 ^ m % ordL) 32)) 65 (0, 0)) (w := w5) (b := N + 1) N (by omega)).trans z5)
              have BE6 := hid (below_blk' be5 hNle (.cells (ints .u8 (digs 256 (n0 / 2 ^ m % ordL) 32)) 65 (0, 0)))
              clear q5 z5 be5 q6 hb5
              go_wp2_with fail
              exact ⟨⟨m, by omega, rfl, Q6.out, Z6.out, BE6.out⟩, by simp [intOf]⟩

end Go.Proofs.Ytceljjnohjnepaa

namespace Go.Proofs.Ytceljjnohjnepaa
open Go.RowKit DG

def eqB (a b : Nat) : Bool := decide (a = b)
def ocanB (s : ByteArray) : Bool := decide (s.size = 32 ∧ bytesNat s.data.toList < ordL)
set_option maxRecDepth 100000 in
theorem toList_data (s : ByteArray) : s.toList = s.data.toList := ByteArray.toList_eq s
set_option maxRecDepth 100000 in
theorem quad_list (n : Nat) (_h : n < 115792089237316195423570985008687907853269984665640564039457584007913129639936) :
    ∃ x0 x1 x2 x3 : Nat, quad n = #[.int .u64 (x0 : Int), .int .u64 (x1 : Int), .int .u64 (x2 : Int), .int .u64 (x3 : Int)] ∧ digs (2 ^ 64) n 4 = [x0, x1, x2, x3] := ⟨_, _, _, _, oquad_ints n, rfl⟩

set_option maxRecDepth 100000 in
theorem digs_eq {a b : Nat} (ha : a < 115792089237316195423570985008687907853269984665640564039457584007913129639936) (hb : b < 115792089237316195423570985008687907853269984665640564039457584007913129639936) :
    digs (2 ^ 64) a 4 = digs (2 ^ 64) b 4 ↔ a = b := by
  constructor
  · intro h
    have h1 := val_digs (B := 2 ^ 64) a 4
    have h2 := val_digs (B := 2 ^ 64) b 4
    rw [h] at h1
    rw [Nat.mod_eq_of_lt (a := a) (b := (2 ^ 64) ^ 4) (by omega)] at h1
    rw [Nat.mod_eq_of_lt (a := b) (b := (2 ^ 64) ^ 4) (by omega)] at h2
    omega
  · rintro rfl; rfl

set_option maxRecDepth 100000 in
theorem ordL_lt (n : Nat) : n % ordL < 115792089237316195423570985008687907853269984665640564039457584007913129639936 := Nat.lt_trans (Nat.mod_lt _ (by decide)) (by decide)

end Go.Proofs.Ytceljjnohjnepaa

namespace Go.Proofs.Ytceljjnohjnepaa
open Go.RowKit DG

set_option maxRecDepth 100000 in
@[go_sem] theorem omake32_32 (w : World) : (Instr.makeSlice 32 (.int .i64 32) (.int .i64 32)).run Try.prog w = .ok (.slice (some ⟨w.heap.size, 0, none⟩) 32 32) (w.alloc (.cells (ints .u8 (List.replicate 32 0)) 5)) := by kernel_rfl

set_option maxRecDepth 100000 in
theorem onatBytes_getD (n k j : Nat) (h : j < k) : ((natBytes n k).getD j 0).toNat = (digs 256 n k).getD j 0 := by
  rw [← natBytes_map]
  have : j < (natBytes n k).length := by rw [natBytes_length]; exact h
  simp [this]

end Go.Proofs.Ytceljjnohjnepaa

namespace Go.Proofs.Ytceljjnohjnepaa
open Go.RowKit DG

set_option maxRecDepth 100000 in
@[go_sem] theorem make65 (w : World) : (Instr.makeSlice 32 (.int .i64 65) (.int .i64 65)).run Try.prog w = .ok (.slice (some ⟨w.heap.size, 0, none⟩) 65 65) (w.alloc (.cells (ints .u8 (List.replicate 65 0)) 5)) := by kernel_rfl

namespace DG
set_option maxRecDepth 100000 in
theorem val_take_succ2 {B : Nat} (l : List Nat) {k : Nat} (h : k < l.length) : val B (l.take (k + 1)) = val B (l.take k) + l.getD k 0 * B ^ k := by
  rw [List.take_succ_eq_append_getElem h, val_append, List.length_take, Nat.min_eq_left (by omega), getD_at h]
  simp [val, Nat.mul_comm]
set_option maxRecDepth 100000 in
theorem oadd_at {B : Nat} {l : List Nat} {j x : Nat} (h : j < l.length) : val B (l.set j (l.getD j 0 + x)) = val B l + x * B ^ j := by
  have := val_set (B := B) h (l.getD j 0 + x)
  rw [Nat.add_mul] at this
  omega
set_option maxRecDepth 100000 in
theorem otake_set_succ {l : List Nat} {j x : Nat} (h : j < l.length) (B : Nat) : val B ((l.set j x).take (j + 1)) = val B (l.take j) + x * B ^ j := by
  rw [val_take_succ2 _ (by simpa using h)]
  congr 1
  · congr 1; exact List.take_set_of_le (Nat.le_refl _)
  · simp [h]
set_option maxRecDepth 100000 in
/-- One digit of carrying. -/
theorem ocarry1 {o t : List Nat} {k cr d cr' : Nat} (hk : k < o.length) (hkt : k < t.length) (h : val 256 (o.take k) + cr * 256 ^ k = val 256 (t.take k)) (hx : d + cr' * 256 = t.getD k 0 + cr) :
    val 256 ((o.set k d).take (k + 1)) + cr' * 256 ^ (k + 1) = val 256 (t.take (k + 1)) := by
  rw [otake_set_succ hk, val_take_succ2 t hkt, ← h]
  have h3 : (d + cr' * 256) * 256 ^ k = (t.getD k 0 + cr) * 256 ^ k := by rw [hx]
  rw [Nat.add_mul, Nat.add_mul, Nat.mul_assoc, ← Nat.pow_succ', Nat.succ_eq_add_one] at h3
  omega
end DG

end Go.Proofs.Ytceljjnohjnepaa

namespace Go.Proofs.Ytceljjnohjnepaa
open Go.RowKit DG

def clampL (l : List UInt8) : List UInt8 := (l.set 0 (l.getD 0 0 &&& 248)).set 31 ((l.getD 31 0 &&& 127) ||| 64)
set_option maxRecDepth 100000 in
theorem and248 (x : UInt8) : bits .and .u8 (x.toNat : Int) 248 = ((x &&& 248).toNat : Int) := by
  rw [show (248 : Int) = ((248 : Nat) : Int) from rfl, u8_and_nat _ _ x.toNat_lt (by decide), UInt8.toNat_and]; rfl
set_option maxRecDepth 100000 in
theorem and127 (x : UInt8) : bits .and .u8 (x.toNat : Int) 127 = ((x &&& 127).toNat : Int) := by
  rw [show (127 : Int) = ((127 : Nat) : Int) from rfl, u8_and_nat _ _ x.toNat_lt (by decide), UInt8.toNat_and]; rfl
set_option maxRecDepth 100000 in
theorem or64 (x : UInt8) : bits .or .u8 (x.toNat : Int) 64 = ((x ||| 64).toNat : Int) := by
  rw [show (64 : Int) = ((64 : Nat) : Int) from rfl, u8_or_nat _ _ x.toNat_lt (by decide), UInt8.toNat_or]; rfl
set_option maxRecDepth 100000 in
theorem andNot7 (x : UInt8) : bits .andNot .u8 (x.toNat : Int) 7 = ((x &&& 248).toNat : Int) := by
  rw [show (7 : Int) = ((7 : Nat) : Int) from rfl, u8_andNot_nat _ _ x.toNat_lt (by decide), UInt8.toNat_and]; rfl
set_option maxRecDepth 100000 in
theorem andNot128 (x : UInt8) : bits .andNot .u8 (x.toNat : Int) 128 = ((x &&& 127).toNat : Int) := by
  rw [show (128 : Int) = ((128 : Nat) : Int) from rfl, u8_andNot_nat _ _ x.toNat_lt (by decide), UInt8.toNat_and]; rfl

set_option maxRecDepth 100000 in
set_option maxHeartbeats 400000 in
theorem Clamp_32 (s : ByteArray) (W : World) (h32 : s.size = 32) :
    Calls Try.prog 74 #[.string s] W fun e w' => e = .returned (.tuple #[.string ⟨(clampL s.data.toList).toArray⟩, .int .i64 0]) ∧ Below W.heap.size W w' := by
  have hn : ((s.size : Int) != 32) = false := by rw [bne_eq_false_iff_eq]; omega
  have HN := hid h32
  have hll : s.data.toList.length = 32 := by simpa using h32
  obtain ⟨l, hl⟩ : ∃ l, s.data.toList = l := ⟨_, rfl⟩
  rw [hl] at hll ⊢
  have HLL := hid hll
  have HL := hid hl
  clear hll hl
  go_enter Try.func74, Try.ntmps74
  go_upto_region 4 with (fail)
  clear hn
  have hL := laid_bytes W s
  have hB := hid (bytesWorld_below W 5 s)
  rw [HL.out] at hL
  clear h32 HN
  generalize Lib.bytesWorld W 5 s = w1 at *
  generalize grownCap W 32 0 5 = cap at *
  generalize hNN : W.heap.size = N at *
  have hlen := HLL.out
  obtain ⟨x0, hx0⟩ : ∃ x, l.getD 0 0 = x := ⟨_, rfl⟩
  obtain ⟨x1, hx1⟩ : ∃ x, l.getD 31 0 = x := ⟨_, rfl⟩
  have hcl : clampL l = (l.set 0 (x0 &&& 248)).set 31 ((x1 &&& 127) ||| 64) := by unfold clampL; rw [hx0, hx1]
  have HCL := hid hcl
  have c0 := hL.cell (j := 0) (by omega)
  have c1 := hL.cell (j := 31) (by omega)
  have f0 := hL.free (j := 0) (by omega)
  have f1 := hL.free (j := 31) (by omega)
  rw [hx0] at c0
  rw [hx1] at c1
  have L2 := (hL.set 0 (x0 &&& 248)).set 31 (x1 &&& 127)
  have L3 := hid (L2.set 31 ((x1 &&& 127) ||| 64))
  rw [List.set_set] at L3
  have BE := hid (((hB.out.setCell (p := ⟨N, 0, none⟩) (Nat.le_refl _) (.int .u8 ((x0 &&& 248).toNat : Int))).setCell (p := ⟨N, 31, none⟩) (Nat.le_refl _) (.int .u8 ((x1 &&& 127).toNat : Int))).setCell (p := ⟨N, 31, none⟩) (Nat.le_refl _) (.int .u8 (((x1 &&& 127) ||| 64).toNat : Int)))
  clear hlen hcl hx0 hx1 L2 hL
  go_upto_region 7 with (fail)
  rw [and248, and127, or64]
  have l3 := L3.out
  have be := BE.out
  generalize (((x0 &&& 248).toNat : Nat) : Int) = v0 at *
  generalize (((x1 &&& 127).toNat : Nat) : Int) = v1 at *
  generalize ((((x1 &&& 127) ||| 64).toNat : Nat) : Int) = v2 at *
  have hl3 : ((l.set 0 (x0 &&& 248)).set 31 ((x1 &&& 127) ||| 64)).length = 32 := by simp [HLL.out]
  have hconv := fun (cap : Nat) => oconv_string _ N 0 32 cap _ hl3 (fun j hj => by rw [Nat.zero_add]; exact l3.cell (by rw [hl3]; exact hj))
  go_wp2_with fail
  refine bodyPost_ret (v := .tuple #[.string ⟨((l.set 0 (x0 &&& 248)).set 31 ((x1 &&& 127) ||| 64)).toArray⟩, .int .i64 0]) (by simp [results, Try.results74, go_sem]) rfl ?_
  exact ⟨by rw [HCL.out], by rw [hNN]; exact be⟩

set_option maxRecDepth 100000 in
theorem Clamp_no (s : ByteArray) (W : World) (h32 : ¬ s.size = 32) :
    Calls Try.prog 74 #[.string s] W fun e w' => e = .returned (.tuple #[.string ⟨#[]⟩, .int .i64 2]) ∧ Below W.heap.size W w' := by
  have hn : ((s.size : Int) != 32) = true := by rw [bne_iff_ne]; omega
  clear h32
  go_enter Try.func74, Try.ntmps74
  go_wp2_with fail
  exact bodyPost_ret (v := .tuple #[.string ⟨#[]⟩, .int .i64 2]) (by simp [results, Try.results74, go_sem]) rfl ⟨rfl, Below.refl _ _⟩

set_option maxRecDepth 100000 in
set_option maxHeartbeats 400000 in
theorem ref_Clamp (s : ByteArray) (W : World) (h32 : s.size = 32) :
    Calls Try.prog 77 #[.string s] W fun e w' => e = .returned (.string ⟨(clampL s.data.toList).toArray⟩) ∧ Below W.heap.size W w' := by
  have HN := hid h32
  have hll : s.data.toList.length = 32 := by simpa using h32
  obtain ⟨l, hl⟩ : ∃ l, s.data.toList = l := ⟨_, rfl⟩
  rw [hl] at hll ⊢
  have HLL := hid hll
  have HL := hid hl
  clear hll hl
  go_enter Try.func77, Try.ntmps77
  go_upto_region 2 with (fail)
  have hL := laid_bytes W s
  have hB := hid (bytesWorld_below W 5 s)
  rw [HL.out] at hL
  clear h32 HN
  generalize Lib.bytesWorld W 5 s = w1 at *
  generalize grownCap W 32 0 5 = cap at *
  generalize hNN : W.heap.size = N at *
  have hlen := HLL.out
  obtain ⟨x0, hx0⟩ : ∃ x, l.getD 0 0 = x := ⟨_, rfl⟩
  obtain ⟨x1, hx1⟩ : ∃ x, l.getD 31 0 = x := ⟨_, rfl⟩
  have hcl : clampL l = (l.set 0 (x0 &&& 248)).set 31 ((x1 &&& 127) ||| 64) := by unfold clampL; rw [hx0, hx1]
  have HCL := hid hcl
  have c0 := hL.cell (j := 0) (by omega)
  have c1 := hL.cell (j := 31) (by omega)
  have f0 := hL.free (j := 0) (by omega)
  have f1 := hL.free (j := 31) (by omega)
  rw [hx0] at c0
  rw [hx1] at c1
  have L3 := hid ((hL.set 0 (x0 &&& 248)).set 31 ((x1 &&& 127) ||| 64))
  have BE := hid ((hB.out.setCell (p := ⟨N, 0, none⟩) (Nat.le_refl _) (.int .u8 ((x0 &&& 248).toNat : Int))).setCell (p := ⟨N, 31, none⟩) (Nat.le_refl _) (.int .u8 (((x1 &&& 127) ||| 64).toNat : Int)))
  clear hlen hcl hx0 hx1 hL
  go_upto_region 4 with (fail)
  rw [andNot7, andNot128, or64]
  have l3 := L3.out
  have be := BE.out
  generalize (((x0 &&& 248).toNat : Nat) : Int) = v0 at *
  generalize ((((x1 &&& 127) ||| 64).toNat : Nat) : Int) = v2 at *
  have hl3 : ((l.set 0 (x0 &&& 248)).set 31 ((x1 &&& 127) ||| 64)).length = 32 := by simp [HLL.out]
  have hconv := fun (cap : Nat) => oconv_string _ N 0 32 cap _ hl3 (fun j hj => by rw [Nat.zero_add]; exact l3.cell (by rw [hl3]; exact hj))
  go_wp2_with fail
  refine bodyPost_ret (v := .string ⟨((l.set 0 (x0 &&& 248)).set 31 ((x1 &&& 127) ||| 64)).toArray⟩) (by simp [results, Try.results77, go_sem]) rfl ?_
  exact ⟨by rw [HCL.out], by rw [hNN]; exact be⟩

end Go.Proofs.Ytceljjnohjnepaa

namespace Go.Proofs.Ytceljjnohjnepaa
open Go Go.RowKit DG

set_option maxRecDepth 100000 in
theorem bld_poi0 (x : Nat) (w : World) : (buildRowP 105 #[(0, .agg (quad x))]).run Try.prog w = .ok (.agg (poi x 0)) w :=
  run_build w 105 _ _ (by kernel_rfl)
set_option maxRecDepth 100000 in
theorem exb_Lad {r : Operand → Value} {dst : Option Nat} {ps : Array (Nat × Operand)} {t : TypeId} {pos : String} {af : Array Edge} {g : Option (Nat × Bool)} : execOp r ⟨dst, .build 107 ps, t, pos, af, g⟩ = (do let v ← buildRowP 107 (ps.map fun (i, x) => (i, r x)); pure (Next.value v)) := rfl
set_option maxRecDepth 100000 in
theorem bld_lad (s : Ld) (u : Nat) (w : World) : (buildRowP 107 #[(0, .agg (poi s.lx s.lz)), (1, .agg (poi s.hx s.hz)), (2, .agg (quad u))]).run Try.prog w = .ok (.agg (ldr s u)) w :=
  run_build w 107 _ _ (by kernel_rfl)
set_option maxRecDepth 100000 in
theorem bld_start (u : Nat) (w : World) : (buildRowP 107 #[(0, .agg (poi 1 0)), (1, .agg (poi u 1)), (2, .agg (quad u))]).run Try.prog w = .ok (.agg (ldr (Ld.start u) u)) w := bld_lad (Ld.start u) u w
attribute [local go_sem ↓] exl_Elem exs_Elem exb_Pnt exb_Lad exs_Lad
                                                                                                                                                                                                         attribute [local go_sem] ldm_Elem str_Lad to_quad0 bld_poi bld_poi0 bld_lad
attribute [local go_sem] bld_start

set_option maxRecDepth 100000 in
theorem cbit {j : Nat} {s : ByteArray} (hs : s.size = 32) (hj : j < 256) (h : j / 8 < s.size) : bits .and .u8 (((s[j / 8]).toNat : Int) / (2 : Int) ^ (j % 8)) 1 = ((bitN (bytesNat s.data.toList) j : Nat) : Int) := by
  rw [and1_shr8 _ _ (UInt8.toNat_lt _)]
  have hl : s.data.toList.length = 32 := by simpa using hs
  have h1 := bit_of_bytes s.data.toList j (by omega)
  unfold bitN
  rw [h1]
  have h2 : s[j / 8] = s.data.toList.getD (j / 8) 0 := by
    have h3 : j / 8 < s.data.toList.length := by omega
    rw [List.getD_eq_getElem?_getD, List.getElem?_eq_getElem h3, Option.getD_some]
    rfl
  rw [h2]

set_option maxRecDepth 100000 in
set_option maxHeartbeats 4000000 in
theorem times_core (sec : ByteArray) (u k : Nat) (S : ByteArray) (W : World) (h32 : sec.size = 32) (hu : u < p2) (hS : (⟨(clampL sec.data.toList).toArray⟩ : ByteArray) = S) (hk : bytesNat S.data.toList = k) :
    Calls Try.prog 40 #[.string sec, .agg (quad u)] W fun r w' => r = .returned (.string (encB (Ld.out u k % pP) false)) ∧ Below W.heap.size W w' := by
  have zS : S.size = 32 := by
    rw [← hS]
    show (clampL sec.data.toList).toArray.size = 32
    unfold clampL
    simp
    exact h32
  have C1 := hid (fun w => small_any 1 w (by decide))
  have CL := hid (fun w => hS ▸ Clamp_32 sec w h32)
  go_enter Try.func40, Try.ntmps40
  go_upto_region 1 with (fail)
  obtain ⟨w1, hw1⟩ : ∃ w1, W.alloc (.cells (quad u) 40) = w1 := ⟨_, rfl⟩
  have kU := kept (show hget w1 (W.heap.size) = some (.cells (quad u) 40 (0, 0)) by rw [← hw1]; clear hw1; go_simp)
  have b1 : Hid (Below W.heap.size W w1) := by rw [← hw1]; repeat (first | exact Below.refl _ _ | exact below_new _ | assumption | refine Below.drew ?_ | refine Below.drewN ?_ _ | refine below_alloc ?_ _ | refine below_blk' ?_ (by omega) _)
  rw [hw1]
  clear hw1
  try clear gU lU nU mU
  try clear jU
  have jU := kU.later
  obtain ⟨gU, lU, nU, mU⟩ := kU
  go_wp2_with fail
  try clear jU
  refine (CL.out _).mono ?_
  rintro e w2 ⟨rfl, hb2⟩
  have kU := Kept.on (kept (b := W.heap.size) (o := .cells (quad u) 40 (0, 0)) (by go_simp)) hb2
  have b2 : Hid (Below W.heap.size W w2) := below_to (by repeat (first | exact Below.refl _ _ | exact below_new _ | exact b1.out | assumption | refine Below.drew ?_ | refine Below.drewN ?_ _ | refine below_alloc ?_ _ | refine below_blk' ?_ (by omega) _)) hb2
  clear hb2
  try clear gU lU nU mU
  obtain ⟨gU, lU, nU, mU⟩ := kU
  clear b1
  go_upto_region 2 with (fail)
  have vU : ∀ x_ : LaterV w2, hget x_.w' (W.heap.size) = some (.cells (quad u) 40 (0, 0)) := laterx_get gU (by simp)
  try clear jU
  refine wp_region_var [7] (fun _ => ⟨8, #[.int .u64 0, .int .u64 0, .int .u64 0, .int .u64 0, .int .u64 0, .int .u64 0, .int .u64 0, .int .u64 0, .int .u64 0, .int .u64 0, .int .u64 0, .int .u64 0, .int .u64 0, .int .u64 0, .int .u64 0, .int .u64 0, .int .u64 0, .int .u64 0, .int .u64 0, .int .u64 0], ldr (Ld.start u) u, 107⟩) [] (fun _ => ⟨0, #[], #[], 0⟩) (by kernel_rfl) (by kernel_rfl) (by kernel_rfl) (vsep_new (by kernel_rfl)) (fun e he => absurd he (by simp)) (fun hsep => ?_) (fun e he => absurd he (by simp))
  have HSEP := hid hsep
  clear hsep
  repeat (first | (refine wpV_plain0 HSEP.out (by kernel_rfl) (by rfl) (by rfl) (by kernel_rfl) (by kernel_rfl) (fun K hK => ?_); go_simp; refine hK _ ?_; clear hK K; try go_ints) | (refine wpV_plain0 HSEP.out (by kernel_rfl) (by rfl) (by rfl) (by kernel_rfl) (by kernel_rfl) (fun K hK => ?_); go_simp; (with_reducible refine ⟨_, fun x => C1.out _, hK _ ?_⟩); clear hK K; try go_ints) | (refine wpV_make0 HSEP.out (by kernel_rfl) (by rfl) rfl (by rfl) (by kernel_rfl) (by kernel_rfl) (fun K hK => ⟨fun x => (by first | (go_simp; done) | (go_simp; rfl)), hK _ ?_⟩); clear hK K; try go_ints) | (refine wpV_store0 7 (by rfl) (by rfl) HSEP.out (by rfl) rfl (by kernel_rfl) (fun K hK => ⟨fun g bk_ x cs hg hcs hx => (by clear hK HSEP; rcases hcs with hcs | hcs <;> (rw [hcs] at hx; clear hcs; simp only [over, dstOf, List.getElem?_toArray, List.getElem?_cons_succ, List.getElem?_cons_zero, Option.bind_some, hg]; go_simp; done)), hK _ ?_⟩); clear hK K; try go_ints))
  refine wpGho_nil ?_
  intro gL xL h0L hnL haL hlL
  clear h0L hlL HSEP
  obtain ⟨v7, e7, l7, h7⟩ := hnL 7 (by simp)
  try simp at h7
  simp only [over, dstOf, List.getElem?_toArray, List.getElem?_cons_succ, List.getElem?_cons_zero, Option.bind_some, e7]
  have hxb := laterV_below xL
  have fU := laterx_get gU (by simp) xL
  clear hnL haL e7 vU
  generalize xL.w' = w3 at *
  have b3 := hid (below_to b2.out hxb)
  have s2 := b2.out.size
  clear hxb b2 xL gL
  obtain ⟨L, h_L⟩ : ∃ n_, n_ = v7 := ⟨_, rfl⟩
  subst h_L
  have wL : W.heap.size ≤ L := by omega
  have eUL : (W.heap.size = L) = False := by simp; omega
  have eLU : (L = W.heap.size) = False := by simp; omega
  clear l7
  clear gU lU nU mU
  obtain ⟨gU, lU, nU, mU⟩ := kept fU
  clear fU
  obtain ⟨gL, lL, nL, mL⟩ := kept h7
  clear h7
  try simp only [Act.put, List.setIfInBounds_toArray, List.set_cons_zero, List.set_cons_succ]
  go_wp2_with fail
  go_loopw [8] (fun i wr => ∃ j : Nat, ∃ s : Ld, j ≤ 255 ∧ i = .int .i64 (254 - (j : Int)) ∧ Ld.rounds u k j = s ∧ hget wr L = some (.cells (ldr s u) 107 (0, 0)) ∧ Below W.heap.size W wr) (fun i _ => (intOf i + 1).toNat)
  case atStart => exact ⟨0, _, by omega, rfl, rfl, gL, b3.out⟩
  case round =>
    clear b3 gL
    obtain ⟨j, s, hj, rfl, hq, gM, hb3⟩ := hrel
    have HQ := hid hq
    have b3 := hid hb3
    clear hq hb3
    by_cases hlt : j < 255
    · obtain ⟨m, hm⟩ : ∃ m : Nat, m = 254 - j := ⟨_, rfl⟩
      have hjm : j + m = 254 := by omega
      have hjI : (254 : Int) - (j : Int) = (m : Int) := by omega
      rw [hjI]
      have hge : decide ((0 : Int) ≤ (m : Int)) = true := decide_eq_true (by omega)
      have hi1 : 0 ≤ (m : Int) / 8 := by omega
      have hi2 : (m : Int) / 8 < 32 := by omega
      have hi3 : ((m : Int) / 8).toNat = m / 8 := by omega
      have hn1 : m / 8 < S.size := by omega
      have HM := hid hm
      have HJM := hid hjm
      clear hm hjm hjI
      have xn := cbit zS (j := m) (by have := HJM.out; omega) hn1
      rw [hk] at xn
      have yn := bitN_lt k m
      obtain ⟨x, hx⟩ : ∃ x, bitN k m = x := ⟨_, rfl⟩
      rw [hx] at xn yn
      have HX := hid hx
      clear hx
      have hs : s.bd := HQ.out ▸ Ld.rounds_bd hu k j
      go_wp2_with fail
      obtain ⟨c, hc⟩ : ∃ c, ((x : Int) == 1) = c := ⟨_, rfl⟩
      rw [hc]
      have HC := hid hc
      clear hc
      have hw2 : IntKind.i64.wrap ((m : Int) - 1) = (m : Int) - 1 := IntWalk.i64_in _ (by have := HJM.out; omega)
      refine (swap_any L u s c wr gM hs).mono ?_
      rintro e w' ⟨rfl, hO1, hM1⟩
      have O1 := hid hO1
      clear hO1 gM
      simp only []
      go_wp2_with fail
      refine (step_any L u _ w' hM1 (Ld.swap_bd hs _) hu).mono ?_
      rintro e w5 ⟨rfl, hO2, hM2⟩
      have O2 := hid (O1.out.then hO2)
      clear O1 hO2 hM1
      simp only []
      go_wp2_with fail
      refine (swap_any L u _ c w5 hM2 (Ld.step_bd (Ld.swap_bd hs _) hu)).mono ?_
      rintro e w6 ⟨rfl, hO3, hM3⟩
      have O3 := hid (O2.out.then hO3)
      clear O2 hO3 hM2
      simp only []
      go_wp2_with fail
      have hcc : c = decide (bitN k (254 - j) = 1) := by
        rw [← HM.out, HX.out, ← HC.out]
        by_cases h1 : x = 1
        · subst h1; rfl
        · have h2 : x = 0 := by omega
          subst h2; rfl
      have hn : Ld.swap c (Ld.step u (Ld.swap c s)) = Ld.rounds u k (j + 1) := by
        show _ = Ld.swap (decide (bitN k (254 - j) = 1)) (Ld.step u (Ld.swap (decide (bitN k (254 - j) = 1)) (Ld.rounds u k j)))
        rw [← hcc, HQ.out]
      rw [hn] at hM3
      have hcnt : (m : Int) - 1 = 254 - ((j + 1 : Nat) : Int) := by have := HJM.out; omega
      exact ⟨⟨j + 1, _, by omega, congrArg (Value.int .i64) hcnt, rfl, hM3, b3.out.trans (O3.out.below (fun b hb => hb ▸ wL) b3.out.size)⟩, by first | (simp [intOf]; done) | (simp [intOf]; omega)⟩
    · obtain rfl : j = 255 := by omega
      have hs : s.bd := HQ.out ▸ Ld.rounds_bd hu k 255
      obtain ⟨v, hv⟩ : ∃ v, invN s.lz = v := ⟨_, rfl⟩
      have bv : v < p2 := hv ▸ raised_lt hs.lz
      have I1 := hid (fun w => hv ▸ inv_any s.lz w hs.lz)
      have M1 := hid (fun w => mul_any s.lx v w hs.lx bv)
      have E1 := hid (fun w => bytes_enc (mulN s.lx v) w (mul_lt hs.lx bv))
      have HV := hid hv
      clear hv
      go_upto_region 10 with (fail)
      have jM := Kept.later (kept gM)
      refine wp_region_later (by kernel_rfl) (by kernel_rfl) ?_
      repeat ((go_big_quiet_step ((first | (go_at_call 47; with_reducible exact calls_later (M1.out _)) | (go_at_call 51; with_reducible exact calls_later (I1.out _)) | (go_at_call 61; with_reducible exact calls_later (E1.out _))))))
      refine wpQuiet_nil ?_
      intro wL hwL
      obtain ⟨⟨w8, hL⟩, e8⟩ := hwL
      change wL = w8 at e8
      subst e8
      go_wp2_with fail
      go_ret
      refine ⟨?_, below_to b3.out hL⟩
      rw [show Ld.out u k = mulN s.lx v by unfold Ld.out; rw [HQ.out, HV.out]]
      rfl
set_option maxRecDepth 100000 in
theorem times_any (sec : ByteArray) (u : Nat) (W : World) (h32 : sec.size = 32) (hu : u < p2) :
    Calls Try.prog 40 #[.string sec, .agg (quad u)] W fun r w' => r = .returned (.string (encB (Ld.out u (bytesNat (clampL sec.data.toList)) % pP) false)) ∧ Below W.heap.size W w' :=
  times_core sec u _ _ W h32 hu rfl rfl

end Go.Proofs.Ytceljjnohjnepaa

namespace Go.Proofs.Ytceljjnohjnepaa
open Go Go.RowKit DG

/-- The multiple of a first coordinate by a clamped secret, as bytes. -/
def mul32 (sec : ByteArray) (u : Nat) : ByteArray := encB (Ld.out u (bytesNat (clampL sec.data.toList)) % pP) false
set_option maxRecDepth 100000 in
theorem public_no (sec : ByteArray) (W : World) (h : sec.size ≠ 32) : Calls Try.prog 14 #[.string sec] W fun r w' => r = .returned (.tuple #[.string ⟨#[]⟩, .int .i64 2]) ∧ Below W.heap.size W w' := by
  have hn : ((sec.size : Int) != 32) = true := by rw [bne_iff_ne]; omega
  go_enter Try.func14, Try.ntmps14
  go_wp2_with fail
  go_ret2
  exact ⟨rfl, Below.refl _ _⟩
set_option maxRecDepth 100000 in
theorem public_yes (sec : ByteArray) (W : World) (h : sec.size = 32) : Calls Try.prog 14 #[.string sec] W fun r w' => r = .returned (.tuple #[.string (mul32 sec 9), .int .i64 0]) ∧ Below W.heap.size W w' := by
  have hn : ((sec.size : Int) != 32) = false := by rw [bne_eq_false_iff_eq]; omega
  obtain ⟨S, hS⟩ : ∃ S, mul32 sec 9 = S := ⟨_, rfl⟩
  suffices HH : Calls Try.prog 14 #[.string sec] W fun r w' => r = .returned (.tuple #[.string S, .int .i64 0]) ∧ Below W.heap.size W w' by rw [hS]; exact HH
  have C1 := hid (fun w => small_any 9 w (by decide))
  have T1 : Hid (∀ w, Calls Try.prog 40 #[.string sec, .agg (quad 9)] w fun r w' => r = Ending.returned (.string S) ∧ Below w.heap.size w w') := hid (fun w => hS ▸ times_any sec 9 w h (by decide))
  clear hS
  go_enter Try.func14, Try.ntmps14
  go_wp2_with fail
  refine (C1.out _).mono ?_
  rintro e w1 ⟨rfl, b1⟩
  simp only []
  go_wp2_with fail
  refine (T1.out _).mono ?_
  rintro e w2 ⟨rfl, b2⟩
  simp only []
  go_wp2_with fail
  go_ret2
  exact ⟨rfl, below_to b1 b2⟩

end Go.Proofs.Ytceljjnohjnepaa
