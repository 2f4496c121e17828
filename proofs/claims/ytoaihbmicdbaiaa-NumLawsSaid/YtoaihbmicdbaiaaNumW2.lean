/- The walks of the numbers: Add. -/
import Derived.Test.YtoaihbmicdbaiaaNumV
import Derived.Test.YtoaihbmicdbaiaaSTF
namespace Go.Proofs.Ytoaihbmicdbaiaa
open Go.RowKit DG
attribute [local go_sem ↓] exl_Elem exs_Elem
                 attribute [local go_sem] ldr_Elem str_Elem
attribute [local go_sem] to_quad0

set_option maxHeartbeats 1000000 in
theorem add_any (a b : Nat) (W : World) (ha : a < p2) (hb : b < p2) : Calls Try.prog 22 #[.agg (quad a), .agg (quad b)] W fun e w' => e = .returned (.agg (quad (addN a b))) ∧ Below W.heap.size W w' := by
  obtain ⟨a0, a1, a2, a3, hq, hw4⟩ := quad_w4 a ha
  have HA := hid hw4
  obtain ⟨h0, h1, h2, h3, h0', h1', h2', h3', _⟩ := hw4
  obtain ⟨b0, b1, b2, b3, hqb, hw4⟩ := quad_w4 b hb
  have HB := hid hw4
  obtain ⟨g0, g1, g2, g3, g0', g1', g2', g3', _⟩ := hw4
  rw [hq, hqb]
  clear hq hqb
  obtain ⟨r, hr⟩ : ∃ r, addN a b = r := ⟨_, rfl⟩
  rw [hr]
  have HR := hid hr
  clear hr
  go_enter Try.func22, Try.ntmps22
  go_wp2_with fail
  refine wp_loop_rounds 5 ?_
  rw [rounds_succ]
  obtain ⟨d0, e0, hr0, da0, db0, ea0, eb0, pa0, pb0⟩ := add64_run a0 b0 0 (by omega) (by omega) (by omega)
  go_wp2_with fail
  refine wp_region_stf 13 (fun w => w.setCell ⟨W.heap.size, 0, none⟩ (.int .u64 d0)) (by kernel_rfl) (by kernel_rfl) (by decide) ?_
  repeat (first | (refine wpStf_quiet (by decide) (by rfl) (fun K hK => ?_); go_simp; refine hK _ ?_; clear hK K; try go_ints) | (refine wpStf_store (by rfl) (by rfl) (fun K hK => ?_); go_simp; refine hK _ ?_; clear hK K; try go_ints) | (refine wpStf_free (by decide) (fun K hK => ?_); go_simp; refine hK _ ?_; clear hK K; try go_ints))
  refine wpStf_nil ?_
  go_wp2_with fail
  clear hr0
  rw [rounds_succ]
  obtain ⟨d1, e1, hr1, da1, db1, ea1, eb1, pa1, pb1⟩ := add64_run a1 b1 e0 (by omega) (by omega) (by omega)
  go_wp2_with fail
  refine wp_region_stf 13 (fun w => w.setCell ⟨W.heap.size, 1, none⟩ (.int .u64 d1)) (by kernel_rfl) (by kernel_rfl) (by decide) ?_
  repeat (first | (refine wpStf_quiet (by decide) (by rfl) (fun K hK => ?_); go_simp; refine hK _ ?_; clear hK K; try go_ints) | (refine wpStf_store (by rfl) (by rfl) (fun K hK => ?_); go_simp; refine hK _ ?_; clear hK K; try go_ints) | (refine wpStf_free (by decide) (fun K hK => ?_); go_simp; refine hK _ ?_; clear hK K; try go_ints))
  refine wpStf_nil ?_
  go_wp2_with fail
  clear hr1
  rw [rounds_succ]
  obtain ⟨d2, e2, hr2, da2, db2, ea2, eb2, pa2, pb2⟩ := add64_run a2 b2 e1 (by omega) (by omega) (by omega)
  go_wp2_with fail
  refine wp_region_stf 13 (fun w => w.setCell ⟨W.heap.size, 2, none⟩ (.int .u64 d2)) (by kernel_rfl) (by kernel_rfl) (by decide) ?_
  repeat (first | (refine wpStf_quiet (by decide) (by rfl) (fun K hK => ?_); go_simp; refine hK _ ?_; clear hK K; try go_ints) | (refine wpStf_store (by rfl) (by rfl) (fun K hK => ?_); go_simp; refine hK _ ?_; clear hK K; try go_ints) | (refine wpStf_free (by decide) (fun K hK => ?_); go_simp; refine hK _ ?_; clear hK K; try go_ints))
  refine wpStf_nil ?_
  go_wp2_with fail
  clear hr2
  rw [rounds_succ]
  obtain ⟨d3, e3, hr3, da3, db3, ea3, eb3, pa3, pb3⟩ := add64_run a3 b3 e2 (by omega) (by omega) (by omega)
  go_wp2_with fail
  refine wp_region_stf 13 (fun w => w.setCell ⟨W.heap.size, 3, none⟩ (.int .u64 d3)) (by kernel_rfl) (by kernel_rfl) (by decide) ?_
  repeat (first | (refine wpStf_quiet (by decide) (by rfl) (fun K hK => ?_); go_simp; refine hK _ ?_; clear hK K; try go_ints) | (refine wpStf_store (by rfl) (by rfl) (fun K hK => ?_); go_simp; refine hK _ ?_; clear hK K; try go_ints) | (refine wpStf_free (by decide) (fun K hK => ?_); go_simp; refine hK _ ?_; clear hK K; try go_ints))
  refine wpStf_nil ?_
  go_wp2_with fail
  clear hr3
  rw [rounds_succ]
  go_wp2_with fail
  have hs := add_sum (a0 := a0) (a1 := a1) (a2 := a2) (a3 := a3) (b0 := b0) (b1 := b1) (b2 := b2) (b3 := b3) (d0 := d0) (d1 := d1) (d2 := d2) (d3 := d3) (e0 := e0) (e1 := e1) (e2 := e2) (e3 := e3) (by omega) (by omega) (by omega) (by omega)
  have hbnd := four_lt da0 da1 da2 da3 db0 db1 db2 db3
  rw [HA.out.eq, HB.out.eq] at hs
  clear h0 h1 h2 h3 h0' h1' h2' h3' g0 g1 g2 g3 g0' g1' g2' g3' pa0 pb0 pa1 pb1 pa2 pb2 pa3 pb3 ha hb
  have hsp := split_carry (X := a + b) (D := d0 + 18446744073709551616 * d1 + 340282366920938463463374607431768211456 * d2 + 6277101735386680763835789423207666416102355444464034512896 * d3) (e := e3) (by rw [hs]; simp) hbnd.1 hbnd.2 ea3
  have hw4 : W4 ((a + b) % p2) d0 d1 d2 d3 := w4_of ⟨da0, db0⟩ ⟨da1, db1⟩ ⟨da2, db2⟩ ⟨da3, db3⟩ hsp.1
  rw [show #[Value.int IntKind.u64 d0, Value.int IntKind.u64 d1, Value.int IntKind.u64 d2, Value.int IntKind.u64 d3] = quad ((a + b) % p2) from hw4.quad.symm]
  have hn : 38 * ((a + b) / p2) ≤ 10000 := by have := hsp.2; omega
  have he3 : 38 * e3 = ((38 * ((a + b) / p2) : Nat) : Int) := by rw [hsp.2]; omega
  rw [he3]
  refine (plus_any ((a + b) % p2) (38 * ((a + b) / p2)) _ (Nat.mod_lt _ (by decide)) hn).mono ?_
  rintro e w' ⟨rfl, hb1⟩
  rw [show plusN ((a + b) % p2) (38 * ((a + b) / p2)) = r from HR.out]
  have gR := Kept.on (kept (b := W.heap.size + 1 + 1) (o := .cells (quad 0) 24 (0, 0)) (by go_simp)) hb1
  have bb : Hid (Below W.heap.size W w') := below_to (by repeat (first | exact Below.refl _ _ | exact below_new _ | assumption | refine Below.drew ?_ | refine Below.drewN ?_ _ | refine below_alloc ?_ _ | refine below_blk' ?_ (by omega) _)) hb1
  obtain ⟨g1, g2, g3, g4⟩ := gR
  clear hb1 hs hbnd hsp hw4 hn he3
  go_wp2_with fail
  refine bodyPost_ret (v := .agg (quad r)) (results_cell_row Try.results22 _ _ (W.heap.size + 1 + 1) 24 (quad r) (0, 0) _ (by rfl) (by rw [← hget_eq]; go_simp) Try.underlying24 rfl (by rw [info_Elem]; go_simp)) rfl ?_
  exact ⟨rfl, by repeat (first | exact Below.refl _ _ | exact below_new _ | exact bb.out | assumption | refine Below.drew ?_ | refine Below.drewN ?_ _ | refine below_alloc ?_ _ | refine below_blk' ?_ (by omega) _)⟩

end Go.Proofs.Ytoaihbmicdbaiaa
