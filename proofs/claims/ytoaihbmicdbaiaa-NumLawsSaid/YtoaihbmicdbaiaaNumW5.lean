/- The walks of the numbers: Sub. -/
import Derived.Test.YtoaihbmicdbaiaaNumV
import Derived.Test.YtoaihbmicdbaiaaSTF
namespace Go.Proofs.Ytoaihbmicdbaiaa
open Go.RowKit DG
attribute [local go_sem ↓] exl_Elem exs_Elem
                 attribute [local go_sem] ldr_Elem str_Elem
attribute [local go_sem] to_quad0

theorem sub64_any (x y c : Int) (hx : 0 ≤ x ∧ x < 18446744073709551616) (hy : 0 ≤ y ∧ y < 18446744073709551616) (hc : 0 ≤ c ∧ c ≤ 1) : ∃ d e : Int,
    (∀ w, (callFunc 41 #[.int .u64 x, .int .u64 y, .int .u64 c]).run Try.prog w = .ok (.value (.tuple #[.int .u64 d, .int .u64 e])) w) ∧
    0 ≤ d ∧ d < 18446744073709551616 ∧ 0 ≤ e ∧ e ≤ 1 ∧ d + y + c ≤ x + 18446744073709551616 * e ∧ x + 18446744073709551616 * e ≤ d + y + c :=
  ⟨_, _, fun w => call_sub64 x y c hx.1 hy hc.1 hc.2 w, by omega, by omega, by split <;> omega, by split <;> omega, by split <;> omega, by split <;> omega⟩

theorem sub4 {a0 a1 a2 a3 b0 b1 b2 b3 d0 d1 d2 d3 e0 e1 e2 e3 : Int} (h0 : d0 + b0 + 0 = a0 + 18446744073709551616 * e0) (h1 : d1 + b1 + e0 = a1 + 18446744073709551616 * e1)
    (h2 : d2 + b2 + e1 = a2 + 18446744073709551616 * e2) (h3 : d3 + b3 + e2 = a3 + 18446744073709551616 * e3) : (d0 + 18446744073709551616 * d1 + 340282366920938463463374607431768211456 * d2 + 6277101735386680763835789423207666416102355444464034512896 * d3) + (b0 + 18446744073709551616 * b1 + 340282366920938463463374607431768211456 * b2 + 6277101735386680763835789423207666416102355444464034512896 * b3) = (a0 + 18446744073709551616 * a1 + 340282366920938463463374607431768211456 * a2 + 6277101735386680763835789423207666416102355444464034512896 * a3) + 115792089237316195423570985008687907853269984665640564039457584007913129639936 * e3 := by omega
theorem sub4s {n d0 d1 d2 d3 f0 f1 f2 f3 g0 g1 g2 g3 : Int} (h0 : f0 + n + 0 = d0 + 18446744073709551616 * g0) (h1 : f1 + g0 + 0 = d1 + 18446744073709551616 * g1)
    (h2 : f2 + g1 + 0 = d2 + 18446744073709551616 * g2) (h3 : f3 + g2 + 0 = d3 + 18446744073709551616 * g3) : (f0 + 18446744073709551616 * f1 + 340282366920938463463374607431768211456 * f2 + 6277101735386680763835789423207666416102355444464034512896 * f3) + n = (d0 + 18446744073709551616 * d1 + 340282366920938463463374607431768211456 * d2 + 6277101735386680763835789423207666416102355444464034512896 * d3) + 115792089237316195423570985008687907853269984665640564039457584007913129639936 * g3 := by omega
theorem sub_fin {a b : Nat} {D e F g : Int} (ha : a < p2) (hb : b < p2) (h1 : D + b = a + 115792089237316195423570985008687907853269984665640564039457584007913129639936 * e) (h2 : F + 38 * e = D + 115792089237316195423570985008687907853269984665640564039457584007913129639936 * g) (D0 : 0 ≤ D) (D1 : D < 115792089237316195423570985008687907853269984665640564039457584007913129639936) (F0 : 0 ≤ F) (F1 : F < 115792089237316195423570985008687907853269984665640564039457584007913129639936)
    (e0 : 0 ≤ e) (e1 : e ≤ 1) (g0 : 0 ≤ g) (g1 : g ≤ 1) : 38 * g ≤ F ∧ F - 38 * g = ((subN a b : Nat) : Int) := by
  have he : (if a < b then 1 else 0 : Nat) = e.toNat := by split <;> (unfold p2 at *; omega)
  have ht : (a + p2 - b) % p2 = D.toNat := by
    unfold p2 at *
    omega
  unfold subN
  rw [he, ht]
  have hg : (if D.toNat < 38 * e.toNat then 1 else 0 : Nat) = g.toNat := by split <;> omega
  rw [hg]
  have hF : (D.toNat + p2 - 38 * e.toNat) % p2 = F.toNat := by
    unfold p2 at *
    omega
  rw [hF]
  clear hF hg ht he
  omega
theorem sub_law {a b : Nat} {a0 a1 a2 a3 b0 b1 b2 b3 d0 d1 d2 d3 e3 f0 f1 f2 f3 g3 : Int} (ha : a < p2) (hb : b < p2) (HA : W4 a a0 a1 a2 a3) (HB : W4 b b0 b1 b2 b3)
    (da : 0 ≤ d0 ∧ 0 ≤ d1 ∧ 0 ≤ d2 ∧ 0 ≤ d3) (db : d0 < 18446744073709551616 ∧ d1 < 18446744073709551616 ∧ d2 < 18446744073709551616 ∧ d3 < 18446744073709551616) (ea3 : 0 ≤ e3) (eb3 : e3 ≤ 1)
    (fa : 0 ≤ f0 ∧ 0 ≤ f1 ∧ 0 ≤ f2 ∧ 0 ≤ f3) (fb : f0 < 18446744073709551616 ∧ f1 < 18446744073709551616 ∧ f2 < 18446744073709551616 ∧ f3 < 18446744073709551616) (ga3 : 0 ≤ g3) (gb3 : g3 ≤ 1)
    (h : (d0 + 18446744073709551616 * d1 + 340282366920938463463374607431768211456 * d2 + 6277101735386680763835789423207666416102355444464034512896 * d3) + (b0 + 18446744073709551616 * b1 + 340282366920938463463374607431768211456 * b2 + 6277101735386680763835789423207666416102355444464034512896 * b3) = (a0 + 18446744073709551616 * a1 + 340282366920938463463374607431768211456 * a2 + 6277101735386680763835789423207666416102355444464034512896 * a3) + 115792089237316195423570985008687907853269984665640564039457584007913129639936 * e3) (k : (f0 + 18446744073709551616 * f1 + 340282366920938463463374607431768211456 * f2 + 6277101735386680763835789423207666416102355444464034512896 * f3) + 38 * e3 = (d0 + 18446744073709551616 * d1 + 340282366920938463463374607431768211456 * d2 + 6277101735386680763835789423207666416102355444464034512896 * d3) + 115792089237316195423570985008687907853269984665640564039457584007913129639936 * g3) :
    0 ≤ f0 - 38 * g3 ∧ f0 - 38 * g3 < 18446744073709551616 ∧ W4 (subN a b) (f0 - 38 * g3) f1 f2 f3 := by
  have hD := four_lt da.1 da.2.1 da.2.2.1 da.2.2.2 db.1 db.2.1 db.2.2.1 db.2.2.2
  have hF := four_lt fa.1 fa.2.1 fa.2.2.1 fa.2.2.2 fb.1 fb.2.1 fb.2.2.1 fb.2.2.2
  rw [HA.eq, HB.eq] at h
  obtain ⟨r1, r2⟩ := sub_fin ha hb h k hD.1 hD.2 hF.1 hF.2 ea3 eb3 ga3 gb3
  clear h
  have hf : 38 * g3 ≤ f0 := by
    obtain h | h : g3 = 0 ∨ g3 = 1 := by omega
    · omega
    · subst h
      clear r1 r2 HA HB ha hb
      omega
  exact ⟨by omega, by omega, w4_of ⟨by omega, by omega⟩ ⟨fa.2.1, fb.2.1⟩ ⟨fa.2.2.1, fb.2.2.1⟩ ⟨fa.2.2.2, fb.2.2.2⟩ (by omega)⟩

set_option maxHeartbeats 2000000 in
theorem sub_any (a b : Nat) (W : World) (ha : a < p2) (hb : b < p2) : Calls Try.prog 24 #[.agg (quad a), .agg (quad b)] W fun e w' => e = .returned (.agg (quad (subN a b))) ∧ Below W.heap.size W w' := by
  obtain ⟨a0, a1, a2, a3, hq, hw4⟩ := quad_w4 a ha
  have HA := hid hw4
  obtain ⟨h0, h1, h2, h3, h0', h1', h2', h3', _⟩ := hw4
  obtain ⟨b0, b1, b2, b3, hqb, hw4⟩ := quad_w4 b hb
  have HB := hid hw4
  obtain ⟨g0, g1, g2, g3, g0', g1', g2', g3', _⟩ := hw4
  rw [hq, hqb]
  clear hq hqb
  obtain ⟨r, hr⟩ : ∃ r, subN a b = r := ⟨_, rfl⟩
  rw [hr]
  have HR := hid hr
  clear hr
  go_enter Try.func24, Try.ntmps24
  go_wp2_with fail
  refine wp_loop_rounds 5 ?_
  rw [rounds_succ]
  obtain ⟨d0, e0, hr0, da0, db0, ea0, eb0, pa0, pb0⟩ := sub64_any a0 b0 0 (by omega) (by omega) (by omega)
  go_wp2_with fail
  refine wp_region_stf 13 (fun w => w.setCell ⟨W.heap.size, 0, none⟩ (.int .u64 d0)) (by kernel_rfl) (by kernel_rfl) (by decide) ?_
  repeat (first | (refine wpStf_quiet (by decide) (by rfl) (fun K hK => ?_); go_simp; refine hK _ ?_; clear hK K; try go_ints) | (refine wpStf_store (by rfl) (by rfl) (fun K hK => ?_); go_simp; refine hK _ ?_; clear hK K; try go_ints) | (refine wpStf_free (by decide) (fun K hK => ?_); go_simp; refine hK _ ?_; clear hK K; try go_ints))
  refine wpStf_nil ?_
  go_wp2_with fail
  clear hr0
  rw [rounds_succ]
  obtain ⟨d1, e1, hr1, da1, db1, ea1, eb1, pa1, pb1⟩ := sub64_any a1 b1 e0 (by omega) (by omega) (by omega)
  go_wp2_with fail
  refine wp_region_stf 13 (fun w => w.setCell ⟨W.heap.size, 1, none⟩ (.int .u64 d1)) (by kernel_rfl) (by kernel_rfl) (by decide) ?_
  repeat (first | (refine wpStf_quiet (by decide) (by rfl) (fun K hK => ?_); go_simp; refine hK _ ?_; clear hK K; try go_ints) | (refine wpStf_store (by rfl) (by rfl) (fun K hK => ?_); go_simp; refine hK _ ?_; clear hK K; try go_ints) | (refine wpStf_free (by decide) (fun K hK => ?_); go_simp; refine hK _ ?_; clear hK K; try go_ints))
  refine wpStf_nil ?_
  go_wp2_with fail
  clear hr1
  rw [rounds_succ]
  obtain ⟨d2, e2, hr2, da2, db2, ea2, eb2, pa2, pb2⟩ := sub64_any a2 b2 e1 (by omega) (by omega) (by omega)
  go_wp2_with fail
  refine wp_region_stf 13 (fun w => w.setCell ⟨W.heap.size, 2, none⟩ (.int .u64 d2)) (by kernel_rfl) (by kernel_rfl) (by decide) ?_
  repeat (first | (refine wpStf_quiet (by decide) (by rfl) (fun K hK => ?_); go_simp; refine hK _ ?_; clear hK K; try go_ints) | (refine wpStf_store (by rfl) (by rfl) (fun K hK => ?_); go_simp; refine hK _ ?_; clear hK K; try go_ints) | (refine wpStf_free (by decide) (fun K hK => ?_); go_simp; refine hK _ ?_; clear hK K; try go_ints))
  refine wpStf_nil ?_
  go_wp2_with fail
  clear hr2
  rw [rounds_succ]
  obtain ⟨d3, e3, hr3, da3, db3, ea3, eb3, pa3, pb3⟩ := sub64_any a3 b3 e2 (by omega) (by omega) (by omega)
  go_wp2_with fail
  refine wp_region_stf 13 (fun w => w.setCell ⟨W.heap.size, 3, none⟩ (.int .u64 d3)) (by kernel_rfl) (by kernel_rfl) (by decide) ?_
  repeat (first | (refine wpStf_quiet (by decide) (by rfl) (fun K hK => ?_); go_simp; refine hK _ ?_; clear hK K; try go_ints) | (refine wpStf_store (by rfl) (by rfl) (fun K hK => ?_); go_simp; refine hK _ ?_; clear hK K; try go_ints) | (refine wpStf_free (by decide) (fun K hK => ?_); go_simp; refine hK _ ?_; clear hK K; try go_ints))
  refine wpStf_nil ?_
  go_wp2_with fail
  clear hr3
  rw [rounds_succ]
  go_wp2_with fail
  have HS := hid (sub4 (a0 := a0) (a1 := a1) (a2 := a2) (a3 := a3) (b0 := b0) (b1 := b1) (b2 := b2) (b3 := b3) (d0 := d0) (d1 := d1) (d2 := d2) (d3 := d3) (e0 := e0) (e1 := e1) (e2 := e2) (e3 := e3) (by omega) (by omega) (by omega) (by omega))
  clear h0 h1 h2 h3 h0' h1' h2' h3' g0 g1 g2 g3 g0' g1' g2' g3' pa0 pb0 pa1 pb1 pa2 pb2 pa3 pb3 ea0 ea1 ea2 eb0 eb1 eb2
  refine wp_loop_rounds 5 ?_
  rw [rounds_succ]
  obtain ⟨f0, g0, hr0, fa0, fb0, ga0, gb0, qa0, qb0⟩ := sub64_any d0 (38 * e3) 0 (by omega) (by omega) (by omega)
  go_wp2_with fail
  clear hr0
  rw [rounds_succ]
  obtain ⟨f1, g1, hr1, fa1, fb1, ga1, gb1, qa1, qb1⟩ := sub64_any d1 g0 0 (by omega) (by omega) (by omega)
  go_wp2_with fail
  clear hr1
  rw [rounds_succ]
  obtain ⟨f2, g2, hr2, fa2, fb2, ga2, gb2, qa2, qb2⟩ := sub64_any d2 g1 0 (by omega) (by omega) (by omega)
  go_wp2_with fail
  clear hr2
  rw [rounds_succ]
  obtain ⟨f3, g3, hr3, fa3, fb3, ga3, gb3, qa3, qb3⟩ := sub64_any d3 g2 0 (by omega) (by omega) (by omega)
  go_wp2_with fail
  clear hr3
  have HT := hid (sub4s (n := 38 * e3) (d0 := d0) (d1 := d1) (d2 := d2) (d3 := d3) (f0 := f0) (f1 := f1) (f2 := f2) (f3 := f3) (g0 := g0) (g1 := g1) (g2 := g2) (g3 := g3) (by omega) (by omega) (by omega) (by omega))
  obtain ⟨z1, z2, Z⟩ := sub_law ha hb HA.out HB.out ⟨da0, da1, da2, da3⟩ ⟨db0, db1, db2, db3⟩ ea3 eb3 ⟨fa0, fa1, fa2, fa3⟩ ⟨fb0, fb1, fb2, fb3⟩ ga3 gb3 HS.out HT.out
  rw [HR.out] at Z
  have HZ := hid Z
  clear Z qa0 qb0 qa1 qb1 qa2 qb2 qa3 qb3
  rw [rounds_succ]
  go_wp2_with fail
  refine bodyPost_ret (v := .agg (#[.int .u64 (f0 - 38 * g3), .int .u64 f1, .int .u64 f2, .int .u64 f3])) (results_cell_row Try.results24 _ _ (W.heap.size + 1 + 1) 24 (#[.int .u64 (f0 - 38 * g3), .int .u64 f1, .int .u64 f2, .int .u64 f3]) (0, 0) _ (by rfl) (by rw [← hget_eq]; go_simp) Try.underlying24 rfl (by rw [info_Elem]; go_simp)) rfl ?_
  refine ⟨by rw [HZ.out.quad], ?_⟩
  repeat (first | exact Below.refl _ _ | exact below_new _ | assumption | refine Below.drew ?_ | refine Below.drewN ?_ _ | refine below_alloc ?_ _ | refine below_blk' ?_ (by omega) _)

end Go.Proofs.Ytoaihbmicdbaiaa
