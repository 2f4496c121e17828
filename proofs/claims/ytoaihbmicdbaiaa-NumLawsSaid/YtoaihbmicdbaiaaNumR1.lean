/- The walks of the document's numbers: Prime, Less, Minus. -/
import Derived.Test.YtoaihbmicdbaiaaNumV
namespace Go.Proofs.Ytoaihbmicdbaiaa
open Go.RowKit DG
attribute [local go_sem ↓] exl_Num exs_Num
                 attribute [local go_sem] ldr_Num str_Num

theorem prime_row : nine pP = #[.int .u64 1073741805, .int .u64 1073741823, .int .u64 1073741823, .int .u64 1073741823, .int .u64 1073741823, .int .u64 1073741823, .int .u64 1073741823, .int .u64 1073741823, .int .u64 32767] := by
  unfold nine
  rw [show digs B30 pP 9 = [1073741805, 1073741823, 1073741823, 1073741823, 1073741823, 1073741823, 1073741823, 1073741823, 32767] from by decide +kernel]
  rfl
theorem ref_Prime (W : World) : Calls Try.prog 38 #[] W fun e w' => e = .returned (.agg (nine pP)) ∧ Below W.heap.size W w' := by
  rw [prime_row]
  go_enter Try.func38, Try.ntmps38
  go_upto_region 1 with (fail)
  refine wp_region_list ?_
  refine wp_build (by rfl) _ _ (by rfl) #[.int .u64 1073741805, .int .u64 1073741823, .int .u64 1073741823, .int .u64 1073741823, .int .u64 1073741823, .int .u64 1073741823, .int .u64 1073741823, .int .u64 1073741823, .int .u64 32767] (by kernel_rfl) ?_
  go_wp2_with fail
  refine bodyPost_ret (v := .agg (#[.int .u64 1073741805, .int .u64 1073741823, .int .u64 1073741823, .int .u64 1073741823, .int .u64 1073741823, .int .u64 1073741823, .int .u64 1073741823, .int .u64 1073741823, .int .u64 32767])) (results_cell_row Try.results38 _ _ (W.heap.size) 30 (#[.int .u64 1073741805, .int .u64 1073741823, .int .u64 1073741823, .int .u64 1073741823, .int .u64 1073741823, .int .u64 1073741823, .int .u64 1073741823, .int .u64 1073741823, .int .u64 32767]) (0, 0) _ (by rfl) (by rw [← hget_eq]; go_simp) Try.underlying30 rfl (by rw [info_Num]; go_simp)) rfl ?_
  exact ⟨rfl, by repeat (first | exact Below.refl _ _ | exact below_new _ | assumption | refine Below.drew ?_ | refine Below.drewN ?_ _ | refine below_alloc ?_ _)⟩

theorem ref_less (a b : List Nat) (W : World) (ha : All B30 a) (hb : All B30 b) (hal : a.length = 9) (hbl : b.length = 9) :
    Calls Try.prog 37 #[.agg (ints .u64 a), .agg (ints .u64 b)] W fun e w' => e = .returned (.bool (decide (val B30 a < val B30 b))) ∧ Below W.heap.size W w' := by
  have hsa : (ints .u64 a).size = 9 := by rw [ints_size, hal]
  have hsb : (ints .u64 b).size = 9 := by rw [ints_size, hbl]
  go_enter Try.func37, Try.ntmps37
  go_wp2_with fail
  obtain ⟨N, hN⟩ : ∃ N, N = W.heap.size := ⟨_, rfl⟩
  rw [← hN]
  have HN := hid hN
  go_loopw [5] (fun i wr => ∃ k : Nat, k ≤ 9 ∧ i = .int .i64 ((k : Int) - 1) ∧ a.drop k = b.drop k ∧ wr.heap[N]? = some (.cells (ints .u64 a) 30 (0, 0)) ∧ wr.heap[N + 1]? = some (.cells (ints .u64 b) 30 (0, 0)) ∧ Below W.heap.size W wr) (fun i _ => (intOf i + 1).toNat)
  case atStart =>
    refine ⟨9, by omega, rfl, by rw [List.drop_of_length_le (by omega), List.drop_of_length_le (by omega)], alloc_old (alloc_at' hN _), alloc_at' (by simp [hN]) _, below_alloc (below_new _) _⟩
  case round =>
    obtain ⟨k, hk, rfl, hd, rA, rB, rb⟩ := hrel
    have HD := hid hd
    have RBE := hid rb
    have HAL := hid hal
    have HBL := hid hbl
    clear hd rb hN
    match k with
    | 0 =>
      have hkd : decide ((0 : Int) - 1 ≥ 0) = false := decide_eq_false (by omega)
      go_wp2_with fail
      refine bodyPost_ret (v := .bool false) (by simp [results, Try.results37, go_sem]) rfl ⟨?_, RBE.out⟩
      rw [show a = b from by simpa using HD.out]
      simp
    | m + 1 =>
      have he : ((m + 1 : Nat) : Int) - 1 = (m : Int) := by omega
      rw [he]
      have hkd : decide ((m : Int) ≥ 0) = true := decide_eq_true (by omega)
      have hm : m < 9 := by omega
      have hi0 : 0 ≤ (m : Int) := by omega
      have hi1 : (m : Int) < 9 := by omega
      have ca := ints_cell rA (j := m) (by omega)
      have cb := ints_cell rB (j := m) (by omega)
      have hx := ha.getD (j := m) (by omega)
      have hy := hb.getD (j := m) (by omega)
      have RA := hid rA
      have RB := hid rB
      clear rA rB
      generalize hxa : a.getD m 0 = x at *
      generalize hyb : b.getD m 0 = y at *
      have HX := hid hxa
      have HY := hid hyb
      clear hxa hyb hal hbl hsa hsb
      go_wp2_with fail
      go_quiet (fail)
      by_cases hxy : x = y
      · have hne : (((x : Int) != (y : Int))) = false := by simp [hxy]
        go_wp2_with fail
        exact ⟨⟨m, by omega, rfl, drop_step (by have := HAL.out; omega) (HAL.out.trans HBL.out.symm) HD.out (by rw [HX.out, HY.out, hxy]), RA.out, RB.out, RBE.out.trans (Dr.below ⟨_, rfl⟩)⟩, by simp [intOf]⟩
      · have hne : (((x : Int) != (y : Int))) = true := by simp [bne_iff_ne]; omega
        go_wp2_with fail
        go_quiet (fail)
        go_wp2_with fail
        refine bodyPost_ret (v := .bool (decide (x < y))) (by simp [results, Try.results37, go_sem]) rfl ⟨?_, ?_⟩
        · have := less_iff ha hb (HAL.out.trans HBL.out.symm) (k := m) (by have := HAL.out; omega) HD.out (by rw [HX.out, HY.out]; exact hxy)
          rw [HX.out, HY.out] at this
          rw [this]
        · exact RBE.out.trans ((Dr.below ⟨_, rfl⟩).trans (Dr.below ⟨_, rfl⟩))

theorem and30 (x : Nat) (hx : x < 18446744073709551616) : bits .and .u64 (x : Int) 1073741823 = ((x % 1073741824 : Nat) : Int) := by
  rw [show (1073741823 : Int) = ((1073741823 : Nat) : Int) from rfl, u64_and_nat _ _ hx (by decide), show (1073741823 : Nat) = 2 ^ 30 - 1 from rfl, Nat.and_two_pow_sub_one_eq_mod]

set_option maxHeartbeats 1000000 in
theorem ref_minus (a b : List Nat) (W : World) (ha : All B30 a) (hb : All B30 b) (hal : a.length = 9) (hbl : b.length = 9) (hle : val B30 b ≤ val B30 a) :
    Calls Try.prog 42 #[.agg (ints .u64 a), .agg (ints .u64 b)] W fun e w' => e = .returned (.agg (nine (val B30 a - val B30 b))) ∧ Below W.heap.size W w' := by
  have hsa : (ints .u64 a).size = 9 := by rw [ints_size, hal]
  have hsb : (ints .u64 b).size = 9 := by rw [ints_size, hbl]
  go_enter Try.func42, Try.ntmps42
  go_wp2_with fail
  obtain ⟨N, hN⟩ : ∃ N, N = W.heap.size := ⟨_, rfl⟩
  rw [← hN]
  have HN := hid hN
  have hz : #[.int .u64 0, .int .u64 0, .int .u64 0, .int .u64 0, .int .u64 0, .int .u64 0, .int .u64 0, .int .u64 0, .int .u64 0] = nine 0 := rfl
  rw [hz]
  have HAL := hid hal
  have HBL := hid hbl
  go_loopw [5, 6] (fun cy i wr => ∃ (k r : Nat) (c : List Nat), k ≤ 9 ∧ i = .int .i64 (k : Int) ∧ cy = .int .u64 (r : Int) ∧ r ≤ 1 ∧ c.length = 9 ∧ All B30 c ∧ val B30 c + val B30 (b.take k) = val B30 a + r * B30 ^ k ∧
    wr.heap[N]? = some (.cells (ints .u64 c) 30 (0, 0)) ∧ wr.heap[N + 1]? = some (.cells (ints .u64 b) 30 (0, 0)) ∧ wr.heap[N + 1 + 1]? = some (.cells (nine 0) 30 (0, 0)) ∧ Below W.heap.size W wr) (fun _ i _ => (9 - intOf i).toNat)
  case atStart =>
    refine ⟨0, 0, a, by omega, rfl, rfl, by omega, hal, ha, by simp [val], alloc_old (alloc_old (alloc_at' hN _)), alloc_old (alloc_at' (by simp [hN]) _), alloc_at' (by simp [hN]) _, below_alloc (below_alloc (below_new _) _) _⟩
  case round =>
    clear hN hz
    obtain ⟨k, r, c, hk, rfl, rfl, hr, hcl, hca, hv, rA, rB, rZ, rb⟩ := hrel
    have HV := hid hv
    have RBE := hid rb
    have RZ := hid rZ
    have HCL := hid hcl
    clear hv rb rZ
    by_cases hk9 : k < 9
    · have hkd : decide ((k : Int) < 9) = true := decide_eq_true (by omega)
      have hi0 : 0 ≤ (k : Int) := by omega
      have hi1 : (k : Int) < 9 := by omega
      have cc := ints_cell rA (j := k) (by omega)
      have cb := ints_cell rB (j := k) (by omega)
      have hx : c.getD k 0 < 1073741824 := hca.getD (j := k) (by omega)
      have hy : b.getD k 0 < 1073741824 := hb.getD (j := k) (by omega)
      have hfa := free_at rA
      have RA := hid rA
      have RB := hid rB
      clear rA rB
      generalize hxa : c.getD k 0 = x at *
      generalize hyb : b.getD k 0 = y at *
      have HX := hid hxa
      have HY := hid hyb
      clear hxa hyb hal hbl hsa hsb hcl
      obtain ⟨X, hX⟩ : ∃ X : Nat, (1073741824 + (x : Int) - (y : Int) - (r : Int)) = (X : Int) := ⟨1073741824 + x - y - r, by omega⟩
      have hX2 : X < 2147483648 := by omega
      have HXX := hid hX
      clear hX
      go_wp2_with fail
      go_quiet (fail)
      rw [HXX.out]
      have h30 := and30 X (by omega)
      go_wp2_with fail
      have hr' : ∃ r' : Nat, r' ≤ 1 ∧ (1 - (X : Int) / 1073741824) = (r' : Int) ∧ X % 1073741824 + y + r = x + r' * 1073741824 := by
        have := HXX.out
        exact ⟨1 - X / 1073741824, by omega, by omega, by omega⟩
      obtain ⟨r', hr1, hr2, hr3⟩ := hr'
      have hst := minus_step (B := B30) (c := c) (b := b) (k := k) (x := X % 1073741824) (by rw [HCL.out]; omega) HV.out (by rw [HBL.out]; omega) (by rw [HX.out, HY.out]; exact hr3)
      refine ⟨⟨k + 1, r', c.set k (X % 1073741824), by omega, by go_num, by rw [hr2], hr1, by simp [HCL.out], All.set hca _ (by unfold B30; omega), hst, ?_, at_setCell_other RB.out (by simp) _, at_setCell_other RZ.out (by simp; omega) _, (RBE.out.setCell (by have := HN.out; simp; omega) _).trans (Dr.below ⟨_, rfl⟩)⟩, by simp [intOf]; omega⟩
      exact ints_store RA.out _ _
    · have hkd : decide ((k : Int) < 9) = false := decide_eq_false (by omega)
      have hk5 : k = 9 := by omega
      have hv := HV.out
      rw [hk5, List.take_of_length_le (by omega)] at hv
      have hc9 := minus_end hca hcl hle (by have := val_lt ha; rwa [hal] at this) hv hb hbl
      obtain ⟨z, hz⟩ : ∃ z, val B30 a - val B30 b = z := ⟨_, rfl⟩
      rw [hz] at hc9
      have HZ := hid hz
      clear hz
      have gA : hget wr N = some (.cells (nine z) 30 (0, 0)) := by rw [hc9] at rA; exact rA
      have gZ : hget wr (N + 1 + 1) = some (.cells (nine 0) 30 (0, 0)) := RZ.out
      have lZ := hget_lt gZ
      have hNle : W.heap.size ≤ N + 1 + 1 := by have := HN.out; omega
      clear rA rB RZ hv HV hk5 hc9
      go_wp2_with fail
      refine bodyPost_ret (v := .agg (nine z)) (results_cell_row Try.results42 _ _ (N + 1 + 1) 30 (nine z) (0, 0) _ (by rfl) (by rw [← hget_eq]; go_simp) Try.underlying30 rfl (by rw [info_Num]; go_simp)) rfl ?_
      exact ⟨by rw [HZ.out], by repeat (first | exact Below.refl _ _ | exact below_new _ | exact RBE.out | assumption | refine Below.drew ?_ | refine Below.drewN ?_ _ | refine below_alloc ?_ _ | refine below_blk' ?_ (by omega) _)⟩

end Go.Proofs.Ytoaihbmicdbaiaa
