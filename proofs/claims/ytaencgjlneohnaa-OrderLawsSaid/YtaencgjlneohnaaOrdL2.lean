/- The law's helper: alive. -/
import Derived.Test.YtaencgjlneohnaaOrdL1
namespace Go.Proofs.Ytaencgjlneohnaa
open Go.RowKit DG

@[go_sem] theorem make31 (w : World) : (Instr.makeSlice 42 (.int .i64 31) (.int .i64 31)).run Try.prog w = .ok (.slice (some ⟨w.heap.size, 0, none⟩) 31 31) (w.alloc (.cells (ints .u8 (List.replicate 31 0)) 5)) := by kernel_rfl
theorem conv_zeros (n : Nat) (w : World) (b : Nat) (h : w.heap.size = b) : (convert 42 9 (.slice (some ⟨b, 0, none⟩) n n)).run Try.prog (w.alloc (.cells (ints .u8 (List.replicate n 0)) 5)) = .ok (.string ⟨(List.replicate n 0).toArray⟩) (w.alloc (.cells (ints .u8 (List.replicate n 0)) 5)) := by
  subst h
  have := conv_string (w.alloc (.cells (ints .u8 (List.replicate n 0)) 5)) w.heap.size 0 n n (List.replicate n 0) (by simp) (fun j hj => by
    rw [Nat.zero_add, ints_cell (alloc_at _ _) (by simpa using hj)]; simp [hj])
  exact this
@[go_sem] theorem conv_zeros31 (w : World) (b : Nat) (h : w.heap.size = b) : (convert 42 9 (.slice (some ⟨b, 0, none⟩) 31 31)).run Try.prog (w.alloc (.cells (ints .u8 [0, 0, 0, 0, 0, 0, 0, 0, 0, 0, 0, 0, 0, 0, 0, 0, 0, 0, 0, 0, 0, 0, 0, 0, 0, 0, 0, 0, 0, 0, 0]) 5)) = .ok (.string ⟨#[0, 0, 0, 0, 0, 0, 0, 0, 0, 0, 0, 0, 0, 0, 0, 0, 0, 0, 0, 0, 0, 0, 0, 0, 0, 0, 0, 0, 0, 0, 0]⟩) (w.alloc (.cells (ints .u8 [0, 0, 0, 0, 0, 0, 0, 0, 0, 0, 0, 0, 0, 0, 0, 0, 0, 0, 0, 0, 0, 0, 0, 0, 0, 0, 0, 0, 0, 0, 0]) 5)) := conv_zeros 31 w b h
@[go_sem] theorem conv_zeros32 (w : World) (b : Nat) (h : w.heap.size = b) : (convert 42 9 (.slice (some ⟨b, 0, none⟩) 32 32)).run Try.prog (w.alloc (.cells (ints .u8 [0, 0, 0, 0, 0, 0, 0, 0, 0, 0, 0, 0, 0, 0, 0, 0, 0, 0, 0, 0, 0, 0, 0, 0, 0, 0, 0, 0, 0, 0, 0, 0]) 5)) = .ok (.string ⟨#[0, 0, 0, 0, 0, 0, 0, 0, 0, 0, 0, 0, 0, 0, 0, 0, 0, 0, 0, 0, 0, 0, 0, 0, 0, 0, 0, 0, 0, 0, 0, 0]⟩) (w.alloc (.cells (ints .u8 [0, 0, 0, 0, 0, 0, 0, 0, 0, 0, 0, 0, 0, 0, 0, 0, 0, 0, 0, 0, 0, 0, 0, 0, 0, 0, 0, 0, 0, 0, 0, 0]) 5)) := conv_zeros 32 w b h

def lStr : ByteArray := ⟨#[237, 211, 245, 92, 26, 99, 18, 88, 214, 156, 247, 162, 222, 249, 222, 20, 0, 0, 0, 0, 0, 0, 0, 0, 0, 0, 0, 0, 0, 0, 0, 16]⟩
theorem lStr_eq : (⟨(natBytes ordL 32).toArray⟩ : ByteArray) = lStr := by
  have : natBytes ordL 32 = [237, 211, 245, 92, 26, 99, 18, 88, 214, 156, 247, 162, 222, 249, 222, 20, 0, 0, 0, 0, 0, 0, 0, 0, 0, 0, 0, 0, 0, 0, 0, 16] := by decide +kernel
  rw [this]; rfl
theorem lStr_val : bytesNat lStr.data.toList = ordL := by decide +kernel

set_option maxHeartbeats 2000000 in
theorem alive_any (W : World) : Calls Try.prog 6 #[] W fun e w' => e = .returned (.bool true) ∧ Below W.heap.size W w' := by
  go_enter Try.func6, Try.ntmps6
  go_wp2_with fail
  refine (ref_Order _).mono ?_
  rintro e w1 ⟨rfl, hb1⟩
  go_wp2_with fail
  refine (ref_Bytes _ _).mono ?_
  rintro e w2 ⟨rfl, hb2⟩
  rw [lStr_eq]
  have b2 := below_to hb1 hb2
  clear hb1 hb2
  go_wp2_with fail
  have hOf := Of_32 lStr w2 (by rfl)
  rw [lStr_val, Nat.mod_self, quad_zero] at hOf
  refine hOf.mono ?_
  clear hOf
  rintro e w3 ⟨rfl, hb3⟩
  have b3 := below_to b2 hb3
  clear b2 hb3
  go_wp2_with fail
  refine (Of_no _ _ (by decide) (by decide) (by decide)).mono ?_
  rintro e w4 ⟨rfl, hb4⟩
  rw [quad_zero]
  have A4 := (hb4.block w3.heap.size (by simp)).trans (alloc_at _ _)
  have b4 := below_to (below_alloc b3 _) hb4
  have hA : W.heap.size ≤ w3.heap.size := b3.size
  generalize w3.heap.size = NA at *
  clear b3 hb4
  have HA4 := hid A4
  have B4 := hid b4
  clear A4 b4
  go_wp2_with fail
  refine (Clamp_32 _ _ (by rfl)).mono ?_
  rintro e w5 ⟨rfl, hb5⟩
  have hcl : (⟨(clampL (ByteArray.mk #[0, 0, 0, 0, 0, 0, 0, 0, 0, 0, 0, 0, 0, 0, 0, 0, 0, 0, 0, 0, 0, 0, 0, 0, 0, 0, 0, 0, 0, 0, 0, 0]).data.toList).toArray⟩ : ByteArray) = ⟨#[0, 0, 0, 0, 0, 0, 0, 0, 0, 0, 0, 0, 0, 0, 0, 0, 0, 0, 0, 0, 0, 0, 0, 0, 0, 0, 0, 0, 0, 0, 0, 64]⟩ := by decide +kernel
  rw [hcl]
  have A5 := (hb5.block NA (by have := lt_blk HA4.out; simp; omega)).trans (alloc_old (alloc_old HA4.out))
  have b5 := below_to (below_alloc (below_alloc B4.out _) _) hb5
  have HA5 := hid A5
  have B5 := hid b5
  clear A5 b5 hcl hb5 HA4 B4
  go_wp2_with fail
  have h3 := Of_32 (⟨#[3]⟩ ++ ⟨#[0, 0, 0, 0, 0, 0, 0, 0, 0, 0, 0, 0, 0, 0, 0, 0, 0, 0, 0, 0, 0, 0, 0, 0, 0, 0, 0, 0, 0, 0, 0]⟩) (w5.alloc (.cells (ints .u8 [0, 0, 0, 0, 0, 0, 0, 0, 0, 0, 0, 0, 0, 0, 0, 0, 0, 0, 0, 0, 0, 0, 0, 0, 0, 0, 0, 0, 0, 0, 0]) 5)) (by rfl)
  rw [show quad (bytesNat ((⟨#[3]⟩ ++ ⟨#[0, 0, 0, 0, 0, 0, 0, 0, 0, 0, 0, 0, 0, 0, 0, 0, 0, 0, 0, 0, 0, 0, 0, 0, 0, 0, 0, 0, 0, 0, 0]⟩ : ByteArray)).data.toList % ordL) = #[.int .u64 3, .int .u64 0, .int .u64 0, .int .u64 0] from by kernel_rfl] at h3
  refine h3.mono ?_
  clear h3
  rintro e w6 ⟨rfl, hb6⟩
  have A6 := (hb6.block NA (by have := lt_blk HA5.out; simp; omega)).trans (alloc_old HA5.out)
  have b6 := below_to (below_alloc B5.out _) hb6
  have HA6 := hid A6
  have B6 := hid b6
  clear A6 b6 hb6 HA5 B5
  go_wp2_with fail
  have h5 := Of_32 (⟨#[5]⟩ ++ ⟨#[0, 0, 0, 0, 0, 0, 0, 0, 0, 0, 0, 0, 0, 0, 0, 0, 0, 0, 0, 0, 0, 0, 0, 0, 0, 0, 0, 0, 0, 0, 0]⟩) ((w6.alloc (.cells #[.int .u64 3, .int .u64 0, .int .u64 0, .int .u64 0] 26)).alloc (.cells (ints .u8 [0, 0, 0, 0, 0, 0, 0, 0, 0, 0, 0, 0, 0, 0, 0, 0, 0, 0, 0, 0, 0, 0, 0, 0, 0, 0, 0, 0, 0, 0, 0]) 5)) (by rfl)
  rw [show quad (bytesNat ((⟨#[5]⟩ ++ ⟨#[0, 0, 0, 0, 0, 0, 0, 0, 0, 0, 0, 0, 0, 0, 0, 0, 0, 0, 0, 0, 0, 0, 0, 0, 0, 0, 0, 0, 0, 0, 0]⟩ : ByteArray)).data.toList % ordL) = #[.int .u64 5, .int .u64 0, .int .u64 0, .int .u64 0] from by kernel_rfl] at h5
  refine h5.mono ?_
  clear h5
  rintro e w7 ⟨rfl, hb7⟩
  have A7 := (hb7.block NA (by have := lt_blk HA6.out; simp; omega)).trans (alloc_old (alloc_old HA6.out))
  have T7 := (hb7.block w6.heap.size (by simp; omega)).trans (alloc_old (alloc_at _ _))
  have b7 := below_to (below_alloc (below_alloc B6.out _) _) hb7
  generalize w6.heap.size = NT at *
  have HA7 := hid A7
  have B7 := hid b7
  have HT7 := hid T7
  have t0 : w7.cell? ⟨NT, 0, none⟩ = some (.int .u64 3) := cell_at T7 0
  have t1 : w7.cell? ⟨NT, 1, none⟩ = some (.int .u64 0) := cell_at T7 1
  have t2 : w7.cell? ⟨NT, 2, none⟩ = some (.int .u64 0) := cell_at T7 2
  have t3 : w7.cell? ⟨NT, 3, none⟩ = some (.int .u64 0) := cell_at T7 3
  clear A7 b7 T7 hb7 HA6 B6
  go_wp2_with fail
  have hm := MulAdd_any 3 5 5 (w7.alloc (.cells #[.int .u64 5, .int .u64 0, .int .u64 0, .int .u64 0] 26)) (by decide) (by decide) (by decide)
  rw [show quad ((3 * 5 + 5) % ordL) = #[.int .u64 20, .int .u64 0, .int .u64 0, .int .u64 0] from by kernel_rfl, show quad 3 = #[.int .u64 3, .int .u64 0, .int .u64 0, .int .u64 0] from by kernel_rfl, show quad 5 = #[.int .u64 5, .int .u64 0, .int .u64 0, .int .u64 0] from by kernel_rfl] at hm
  refine hm.mono ?_
  clear hm t0 t1 t2 t3
  rintro e w8 ⟨rfl, hb8⟩
  have A8 := (hb8.block NA (by have := lt_blk HA7.out; simp; omega)).trans (alloc_old HA7.out)
  have b8 := below_to (below_alloc B7.out _) hb8
  have HA8 := hid A8
  have B8 := hid b8
  clear A8 b8 hb8 HA7 B7 HT7
  go_wp2_with fail
  have hy := Bytes_any 20 w8 (by decide)
  rw [show quad 20 = #[.int .u64 20, .int .u64 0, .int .u64 0, .int .u64 0] from by kernel_rfl, show (natBytes 20 32).toArray = #[20, 0, 0, 0, 0, 0, 0, 0, 0, 0, 0, 0, 0, 0, 0, 0, 0, 0, 0, 0, 0, 0, 0, 0, 0, 0, 0, 0, 0, 0, 0, 0] from by decide +kernel] at hy
  refine hy.mono ?_
  clear hy
  rintro e w9 ⟨rfl, hb9⟩
  have A9 := (hb9.block NA (lt_blk HA8.out)).trans HA8.out
  have b9 := below_to B8.out hb9
  have B9 := hid b9
  have a0 : w9.cell? ⟨NA, 0, none⟩ = some (.int .u64 0) := cell_at A9 0
  have a1 : w9.cell? ⟨NA, 1, none⟩ = some (.int .u64 0) := cell_at A9 1
  have a2 : w9.cell? ⟨NA, 2, none⟩ = some (.int .u64 0) := cell_at A9 2
  have a3 : w9.cell? ⟨NA, 3, none⟩ = some (.int .u64 0) := cell_at A9 3
  clear A9 b9 hb9 HA8 B8
  go_wp2_with fail
  have hsm := Same_any 0 0 w9 (by decide) (by decide)
  rw [quad_zero, show eqB 0 0 = true from rfl] at hsm
  refine hsm.mono ?_
  clear hsm a0 a1 a2 a3
  rintro e w10 ⟨rfl, hb10⟩
  have B10 := hid (below_to B9.out hb10)
  clear hb10 B9
  go_wp2_with fail
  have hcn := Canonical_any lStr w10 (by decide)
  rw [show canB lStr = false from by decide +kernel] at hcn
  refine hcn.mono ?_
  clear hcn
  rintro e w11 ⟨rfl, hb11⟩
  have B11 := hid (below_to B10.out hb11)
  clear hb11 B10
  go_wp2_with fail
  go_ret
  exact ⟨rfl, B11.out⟩

end Go.Proofs.Ytaencgjlneohnaa
