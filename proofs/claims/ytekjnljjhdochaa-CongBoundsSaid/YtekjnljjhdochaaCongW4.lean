/- The walks of the congestion control, of the program and of the reference: what each call does. -/
import Derived.Test.YtekjnljjhdochaaCongW3
namespace Go.Proofs.Ytekjnljjhdochaa
open Go.RowKit

set_option maxHeartbeats 400000 in
theorem acked_nil (a n : Int) (W : World) : Calls Try.prog 10 #[.pointer none, .int .u32 a, .int .u32 n] W fun e w' => e = .returned (.tuple #[]) ∧ W = w' := by
  go_enter Try.func10, Try.ntmps10
  go_wp2_with fail
  refine bodyPost_ret (results_none rfl _ _ _) rfl ⟨rfl, rfl⟩
set_option maxHeartbeats 400000 in
theorem tout_nil (a : Int) (W : World) : Calls Try.prog 14 #[.pointer none, .int .u32 a] W fun e w' => e = .returned (.tuple #[]) ∧ W = w' := by
  go_enter Try.func14, Try.ntmps14
  go_wp2_with fail
  refine bodyPost_ret (results_none rfl _ _ _) rfl ⟨rfl, rfl⟩
set_option maxHeartbeats 400000 in
theorem dup_nil (a b : Int) (W : World) : Calls Try.prog 12 #[.pointer none, .int .u32 a, .int .u32 b] W fun e w' => e = .returned (.bool false) ∧ W = w' := by
  go_enter Try.func12, Try.ntmps12
  go_wp2_with fail
  go_ret
  exact ⟨rfl, rfl⟩
set_option maxHeartbeats 400000 in
theorem state_nil (W : World) : Calls Try.prog 9 #[.pointer none] W fun e w' => e = .returned (.agg #[.int .u32 0, .int .u32 0, .int .i64 0, .bool false, .int .u32 0]) ∧ ∃ o, W.alloc o = w' := by
  go_enter Try.func9, Try.ntmps9
  go_wp2_with fail
  exact bodyPost_ret (v := .agg #[.int .u32 0, .int .u32 0, .int .i64 0, .bool false, .int .u32 0]) (by simp [results, Try.results9, go_sem]) rfl ⟨rfl, _, rfl⟩

@[go_sem] theorem field_w (a b c d e : Value) (w : World) : (Instr.field 32 (.agg #[a, b, c, d, e]) 0).run Try.prog w = .ok a w := by kernel_rfl
@[go_sem] theorem field_l (a b c d e : Value) (w : World) : (Instr.field 32 (.agg #[a, b, c, d, e]) 1).run Try.prog w = .ok b w := by kernel_rfl

theorem s1 : acked (fresh 1460) 9 1460 = ⟨1460, 5840, 1073741824, 0, false, 0⟩ := by decide +kernel
theorem s2 : dupped ⟨1460, 5840, 1073741824, 0, false, 0⟩ 8000 9 = (⟨1460, 5840, 1073741824, 1, false, 0⟩, false) := by decide +kernel
theorem s3 : dupped ⟨1460, 5840, 1073741824, 1, false, 0⟩ 8000 9 = (⟨1460, 5840, 1073741824, 2, false, 0⟩, false) := by decide +kernel
theorem s4 : dupped ⟨1460, 5840, 1073741824, 2, false, 0⟩ 8000 9 = (⟨1460, 8380, 4000, 3, true, 9⟩, true) := by decide +kernel
theorem s5 : acked ⟨1460, 8380, 4000, 3, true, 9⟩ 9 8000 = ⟨1460, 4000, 4000, 0, false, 9⟩ := by decide +kernel
theorem s6 : timed ⟨1460, 4000, 4000, 0, false, 9⟩ 100 = ⟨1460, 1460, 2920, 0, false, 9⟩ := by decide +kernel

/-- One block turned: what is known before is known behind. -/
structure Kept (N : Nat) (s : St) (W0 w : World) : Prop where
  at_ : w.heap[N]? = some (.cells s.enc 46 (0, 0))
  below : Below W0.heap.size W0 w
theorem Kept.to {N : Nat} {s s' : St} {W0 w w' : World} (h : Kept N s W0 w) (hN : W0.heap.size ≤ N) (hd : Dr (blk w N (.cells s'.enc 46 (0, 0))) w') : Kept N s' W0 w' :=
  ⟨dr_at hd (lt_blk h.at_), h.below.trans (dr_below hd hN)⟩
theorem Kept.alloc {N : Nat} {s : St} {W0 w : World} (h : Kept N s W0 w) (o : Obj) : Kept N s W0 (w.alloc o) :=
  ⟨alloc_old h.at_, h.below.alloc h.below.size o⟩

set_option maxHeartbeats 1000000 in
theorem works_any (W : World) : Calls Try.prog 6 #[] W fun e w' => e = .returned (.bool true) ∧ Below W.heap.size W w' := by
  go_enter Try.func6, Try.ntmps6
  go_wp2_with fail
  refine (new_any 1460 _ (by omega) (by omega)).mono ?_
  rintro e w1 ⟨rfl, hw1⟩
  have k1 : Kept W.heap.size (fresh 1460) W w1 := by subst hw1; exact ⟨alloc_at _ _, alloc_below _ _ _ (Nat.le_refl _)⟩
  clear hw1
  go_wp2_with fail
  refine (acked_any W.heap.size (fresh 1460) 9 1460 _ k1.at_ (fresh_ok (by omega) (by omega)) (by omega)).mono ?_
  rintro e w2 ⟨rfl, hd⟩
  rw [s1] at hd
  have k2 := k1.to (Nat.le_refl _) hd
  clear hd k1
  go_wp2_with fail
  refine (state_any W.heap.size _ _ k2.at_).mono ?_
  rintro e w3 ⟨rfl, o, rfl⟩
  have k3 := k2.alloc o
  clear k2
  generalize w2.alloc o = w3 at *
  go_wp2_with fail
  refine (dup_any W.heap.size _ 8000 9 _ k3.at_ (by constructor <;> decide) (by omega)).mono ?_
  rintro e w4 ⟨rfl, hd⟩
  rw [s2] at hd
  have k4 := k3.to (Nat.le_refl _) hd
  rw [s2]
  clear hd k3
  go_wp2_with fail
  refine (dup_any W.heap.size _ 8000 9 _ k4.at_ (by constructor <;> decide) (by omega)).mono ?_
  rintro e w5 ⟨rfl, hd⟩
  rw [s3] at hd
  have k5 := k4.to (Nat.le_refl _) hd
  rw [s3]
  clear hd k4
  go_wp2_with fail
  refine (dup_any W.heap.size _ 8000 9 _ k5.at_ (by constructor <;> decide) (by omega)).mono ?_
  rintro e w6 ⟨rfl, hd⟩
  rw [s4] at hd
  have k6 := k5.to (Nat.le_refl _) hd
  rw [s4]
  clear hd k5
  go_wp2_with fail
  refine (state_any W.heap.size _ _ k6.at_).mono ?_
  rintro e w7 ⟨rfl, o, rfl⟩
  have k7 := k6.alloc o
  clear k6
  generalize w6.alloc o = w7 at *
  go_wp2_with fail
  obtain ⟨S, hS⟩ : ∃ S, S = w7.heap.size := ⟨_, rfl⟩
  obtain ⟨w8, hw8⟩ : ∃ w8, w8 = w7.alloc (.cells #[.int .u32 8380, .int .u32 4000, .int .i64 3, .bool true, .int .u32 9] 32) := ⟨_, rfl⟩
  have k8 := k7.alloc (.cells #[.int .u32 8380, .int .u32 4000, .int .i64 3, .bool true, .int .u32 9] 32)
  have hSN : S ≠ W.heap.size := by have := lt_blk k7.at_; omega
  have hb8 : w8.heap[S]? = some (.cells #[.int .u32 8380, .int .u32 4000, .int .i64 3, .bool true, .int .u32 9] 32) := by rw [hw8, hS]; exact alloc_at _ _
  rw [← hw8] at k8 ⊢
  rw [← hS]
  clear hw8 k7 hS
  refine (acked_any W.heap.size _ 9 8000 _ k8.at_ (by constructor <;> decide) (by omega)).mono ?_
  rintro e w9 ⟨rfl, hd⟩
  rw [s5] at hd
  have k9 := k8.to (Nat.le_refl _) hd
  have hb9 := (dr_other hd S hSN).trans hb8
  clear hd k8 hb8
  go_wp2_with fail
  refine (state_any W.heap.size _ _ k9.at_).mono ?_
  rintro e w10 ⟨rfl, o, rfl⟩
  have k10 := k9.alloc o
  have hb10 := alloc_old (o' := o) hb9
  clear k9 hb9
  generalize w9.alloc o = w10 at *
  go_wp2_with fail
  refine (tout_any W.heap.size _ 100 _ k10.at_ (by constructor <;> decide) (by omega)).mono ?_
  rintro e w11 ⟨rfl, hd⟩
  rw [s6] at hd
  have k11 := k10.to (Nat.le_refl _) hd
  have hb11 := (dr_other hd S hSN).trans hb10
  clear hd k10 hb10 hSN
  have c0 : w11.cell? ⟨S, 0, none⟩ = some (.int .u32 8380) := cell_at hb11 0
  have c1 : w11.cell? ⟨S, 1, none⟩ = some (.int .u32 4000) := cell_at hb11 1
  have c3 : w11.cell? ⟨S, 3, none⟩ = some (.bool true) := cell_at hb11 3
  clear hb11
  go_wp2_with fail
  refine (state_any W.heap.size _ _ k11.at_).mono ?_
  rintro e w12 ⟨rfl, o, rfl⟩
  have k12 := k11.alloc o
  clear k11
  generalize w11.alloc o = w12 at *
  go_wp2_with fail
  refine (state_any W.heap.size _ _ k12.at_).mono ?_
  rintro e w13 ⟨rfl, o, rfl⟩
  have k13 := k12.alloc o
  clear k12
  generalize w12.alloc o = w13 at *
  go_wp2_with fail
  go_ret
  exact ⟨rfl, k13.below⟩

set_option maxHeartbeats 1000000 in
theorem none_any (a b : Int) (W : World) : Calls Try.prog 5 #[.int .u32 a, .int .u32 b] W fun e w' => e = .returned (.bool true) ∧ Below W.heap.size W w' := by
  go_enter Try.func5, Try.ntmps5
  go_wp2_with fail
  refine (acked_nil _ _ _).mono ?_
  rintro e w1 ⟨rfl, rfl⟩
  go_wp2_with fail
  refine (tout_nil _ _).mono ?_
  rintro e w1 ⟨rfl, rfl⟩
  go_wp2_with fail
  refine (dup_nil _ _ _).mono ?_
  rintro e w1 ⟨rfl, rfl⟩
  go_wp2_with fail
  refine (state_nil _).mono ?_
  rintro e w1 ⟨rfl, o, rfl⟩
  have hb := alloc_below W.heap.size W o (Nat.le_refl _)
  generalize W.alloc o = w2 at *
  go_wp2_with fail
  refine (works_any _).mono ?_
  rintro e w3 ⟨rfl, hb'⟩
  have hb3 := hb.trans (hb'.mono hb.size)
  clear hb hb'
  go_wp2_with fail
  go_ret
  exact ⟨rfl, hb3⟩

end Go.Proofs.Ytekjnljjhdochaa
