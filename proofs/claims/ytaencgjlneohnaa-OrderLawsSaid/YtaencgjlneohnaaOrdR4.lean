/- The walks of the document's numbers: Bytes, Canonical, MulAdd. -/
import Derived.Test.YtaencgjlneohnaaOrdR3
import Derived.Test.YtaencgjlneohnaaOrdW6
namespace Go.Proofs.Ytaencgjlneohnaa
open Go.RowKit DG

@[go_sem] theorem make32_32 (w : World) : (Instr.makeSlice 42 (.int .i64 32) (.int .i64 32)).run Try.prog w = .ok (.slice (some ⟨w.heap.size, 0, none⟩) 32 32) (w.alloc (.cells (ints .u8 (List.replicate 32 0)) 5)) := by kernel_rfl

theorem natBytes_getD (n k j : Nat) (h : j < k) : ((natBytes n k).getD j 0).toNat = (digs 256 n k).getD j 0 := by
  rw [← natBytes_map]
  have : j < (natBytes n k).length := by rw [natBytes_length]; exact h
  simp [this]

set_option maxHeartbeats 1000000 in
theorem ref_Bytes (n : Nat) (W : World) :
    Calls Try.prog 19 #[.agg (ints .u8 (digs 256 n 32))] W fun e w' => e = .returned (.string ⟨(natBytes n 32).toArray⟩) ∧ Below W.heap.size W w' := by
  obtain ⟨l, hl⟩ : ∃ l, digs 256 n 32 = l := ⟨_, rfl⟩
  have hll : l.length = 32 := by rw [← hl, digs_length]
  have hla : All 256 l := by rw [← hl]; exact digs_all (by decide) _ _
  have hsa : (ints .u8 l).size = 32 := by rw [ints_size, hll]
  have HNB := hid (fun j (h : j < 32) => (natBytes_getD n 32 j h).trans (by rw [hl]))
  rw [hl]
  have HLL := hid hll
  clear hl hll
  go_enter Try.func19, Try.ntmps19
  go_wp2_with fail
  obtain ⟨N, hN⟩ : ∃ N, N = W.heap.size := ⟨_, rfl⟩
  rw [← hN]
  have HN := hid hN
  go_loopw [4] (fun i wr => ∃ (k : Nat) (c : List Nat), k ≤ 32 ∧ i = .int .i64 (k : Int) ∧ c.length = 32 ∧ (∀ j, j < k → c.getD j 0 = l.getD j 0) ∧
    wr.heap[N]? = some (.cells (ints .u8 l) 37 (0, 0)) ∧ wr.heap[N + 1]? = some (.cells (ints .u8 c) 5 (0, 0)) ∧ Below W.heap.size W wr) (fun i _ => (32 - intOf i).toNat)
  case atStart =>
    exact ⟨0, List.replicate 32 0, by omega, rfl, by simp, fun j hj => absurd hj (by omega), alloc_old (alloc_at' hN _), alloc_at' (by simp [hN]) _, below_alloc (below_new _) _⟩
  case round =>
    clear hN
    obtain ⟨k, c, hk, rfl, hcl, hcj, rA, rC, rb⟩ := hrel
    have HCJ := hid hcj
    have RBE := hid rb
    clear hcj rb
    by_cases hk32 : k < 32
    · have hkd : decide ((k : Int) < 32) = true := decide_eq_true (by omega)
      have hi0 : 0 ≤ (k : Int) := by omega
      have hi1 : (k : Int) < 32 := by omega
      have ca := ints_cell rA (j := k) (by rw [HLL.out]; exact hk32)
      have cc := ints_cell rC (j := k) (by rw [hcl]; exact hk32)
      have hx := hla.getD (j := k) (by rw [HLL.out]; exact hk32)
      have hf := free_at rC
      generalize hxa : l.getD k 0 = x at *
      have HX := hid hxa
      have HA := hid rA
      have HC := hid rC
      have HCL := hid hcl
      clear hxa rA rC hcl
      go_wp2_with fail
      refine ⟨⟨k + 1, c.set k x, by omega, by go_num, by simp [HCL.out], ?_, at_setCell_other HA.out (by simp) _, ints_store HC.out _ _, RBE.out.setCell (by have := HN.out; simp; omega) _⟩, by simp [intOf]; omega⟩
      intro j hj
      by_cases hjk : j = k
      · subst hjk; rw [HX.out]; have := HCL.out; simp [show j < c.length by omega]
      · rw [← HCJ.out j (by omega)]; simp [List.getElem?_set, Ne.symm hjk]
    · have hkd : decide ((k : Int) < 32) = false := decide_eq_false (by omega)
      have hconv := conv_string wr (N + 1) 0 32 32 (natBytes n 32) (natBytes_length _ _) (fun j hj => by
        rw [Nat.zero_add, ints_cell rC (by rw [hcl]; exact hj), HCJ.out j (by omega), ← HNB.out j hj])
      have HA := hid rA
      have HC := hid rC
      clear rA rC
      go_wp2_with fail
      go_ret
      exact ⟨rfl, RBE.out⟩

theorem ref_Canonical (s : ByteArray) (W : World) (hmax : 8 * s.size ≤ 9223372036854775807) :
    Calls Try.prog 10 #[.string s] W fun e w' => e = .returned (.bool (canB s)) ∧ Below W.heap.size W w' := by
  by_cases h32 : s.size = 32
  · have hlt : bytesNat s.data.toList % ordL < 256 ^ 32 := Nat.lt_trans (Nat.mod_lt _ (by decide)) (by decide)
    have hcan : (natBytes (bytesNat s.data.toList % ordL) 32 == s.toList) = canB s := by
      unfold canB
      rw [toList_data, Bool.eq_iff_iff, beq_iff_eq, decide_eq_true_eq]
      have hl : s.data.toList.length = 32 := by simpa using h32
      constructor
      · intro h
        have h1 := bytesNat_natBytes (bytesNat s.data.toList % ordL) 32
        rw [h, Nat.mod_eq_of_lt hlt] at h1
        exact ⟨h32, by rw [h1]; exact Nat.mod_lt _ (by decide)⟩
      · rintro ⟨_, h⟩
        rw [Nat.mod_eq_of_lt h]
        have := natBytes_bytesNat s.data.toList
        rwa [hl] at this
    have HC := hid hcan
    have hs2 : ((s.size : Int) == 32) = true := by rw [beq_iff_eq]; omega
    clear hcan h32
    go_enter Try.func10, Try.ntmps10
    go_wp2_with fail
    refine (ref_Of s _ hmax).mono ?_
    rintro e w1 ⟨rfl, hb1⟩
    go_wp2_with fail
    refine (ref_Bytes _ _).mono ?_
    rintro e w2 ⟨rfl, hb2⟩
    have hb3 := below_to hb1 hb2
    clear hb1 hb2
    go_wp2_with fail
    go_ret
    exact ⟨congrArg (fun b => Ending.returned (.bool b)) HC.out, hb3⟩
  · have hcan : canB s = false := by unfold canB; exact decide_eq_false (fun h => h32 h.1)
    rw [hcan]
    have hs2 : ((s.size : Int) == 32) = false := by rw [beq_eq_false_iff_ne]; omega
    clear hcan h32
    go_enter Try.func10, Try.ntmps10
    go_wp2_with fail
    go_ret
    exact ⟨rfl, Below.refl _ _⟩

end Go.Proofs.Ytaencgjlneohnaa
