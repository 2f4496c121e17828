/- The walks of the numbers: Small, mask, Select, plus. -/
import Derived.Test.YtoaihbmicdbaiaaNumQ
import Derived.Deep.RegionHeld3
namespace Go.Proofs.Ytoaihbmicdbaiaa
open Go.RowKit DG

set_option maxHeartbeats 400000 in
theorem small_any (n : Nat) (W : World) (h : n < 4294967296) : Calls Try.prog 18 #[.int .u32 (n : Int)] W fun e w' => e = .returned (.agg (quad n)) ∧ Below W.heap.size W w' := by
  have hq : quad n = #[.int .u64 (n : Int), .int .u64 0, .int .u64 0, .int .u64 0] := by unfold quad; congr 1; simp only [List.cons.injEq, Value.int.injEq, true_and, and_true]; omega
  rw [hq]
  go_enter Try.func18, Try.ntmps18
  go_wp2_with fail
  exact bodyPost_ret (v := .agg #[.int .u64 (n : Int), .int .u64 0, .int .u64 0, .int .u64 0]) (by simp [results, Try.results18, go_sem]) rfl ⟨rfl, below_new _⟩

def maskN (b : Bool) : Int := if b then 18446744073709551615 else 0
theorem mask_any (b : Bool) (W : World) : Calls Try.prog 45 #[.bool b] W fun e w' => e = .returned (.int .u64 (maskN b)) ∧ W = w' := by
  cases b
  · go_enter Try.func45, Try.ntmps45
    go_wp2
    go_ret
    exact ⟨rfl, rfl⟩
  · go_enter Try.func45, Try.ntmps45
    go_wp2
    go_ret
    exact ⟨rfl, rfl⟩

set_option maxHeartbeats 1000000 in
theorem plus_any (a n : Nat) (W : World) (ha : a < p2) (hn : n ≤ 10000) : Calls Try.prog 40 #[.agg (quad a), .int .u64 (n : Int)] W fun e w' => e = .returned (.agg (quad (plusN a n))) ∧ Below W.heap.size W w' := by
  obtain ⟨a0, a1, a2, a3, hq, hw4⟩ := quad_w4 a ha
  have HW4 := hid hw4
  obtain ⟨h0, h1, h2, h3, h0', h1', h2', h3', _⟩ := hw4
  rw [hq]
  clear hq
  go_enter Try.func40, Try.ntmps40
  go_wp2_with (refine wpList_add64 rfl rfl _ _ _ rfl rfl rfl (by omega) (by omega) (by omega) (by omega) (by omega) ?_; intro d0 e0 da0 db0 ea0 eb0 pa0 pb0)
  refine wp_loop_rounds 4 ?_
  rw [rounds_succ]
  go_wp2_with (refine wpList_add64 rfl rfl _ _ _ rfl rfl rfl (by omega) (by omega) (by omega) (by omega) (by omega) ?_; intro d1 e1 da1 db1 ea1 eb1 pa1 pb1)
  rw [rounds_succ]
  go_wp2_with (refine wpList_add64 rfl rfl _ _ _ rfl rfl rfl (by omega) (by omega) (by omega) (by omega) (by omega) ?_; intro d2 e2 da2 db2 ea2 eb2 pa2 pb2)
  rw [rounds_succ]
  go_wp2_with (refine wpList_add64 rfl rfl _ _ _ rfl rfl rfl (by omega) (by omega) (by omega) (by omega) (by omega) ?_; intro d3 e3 da3 db3 ea3 eb3 pa3 pb3)
  rw [rounds_succ]
  obtain ⟨x1, x2, W4'⟩ := plus_law HW4.out hn da0 db0 da1 db1 da2 db2 da3 db3 ea3 eb3 pa0 pb0 pa1 pb1 pa2 pb2 pa3 pb3
  have HW := hid W4'
  clear W4' HW4 h0 h1 h2 h3 h0' h1' h2' h3' pa0 pb0 pa1 pb1 pa2 pb2 pa3 pb3
  go_wp2_with fail
  refine bodyPost_ret (v := .agg #[.int .u64 (d0 + 38 * e3), .int .u64 d1, .int .u64 d2, .int .u64 d3]) (by simp [results, Try.results40, go_sem]) rfl ⟨by rw [HW.out.quad], ?_⟩
  exact below_alloc (below_new _) _

theorem add64_run (x y c : Int) (hx : 0 ≤ x ∧ x < 18446744073709551616) (hy : 0 ≤ y ∧ y < 18446744073709551616) (hc : 0 ≤ c ∧ c ≤ 1) : ∃ d e : Int,
    (∀ w, (callFunc 39 #[.int .u64 x, .int .u64 y, .int .u64 c]).run Try.prog w = .ok (.value (.tuple #[.int .u64 d, .int .u64 e])) w) ∧
    0 ≤ d ∧ d < 18446744073709551616 ∧ 0 ≤ e ∧ e ≤ 1 ∧ d + 18446744073709551616 * e ≤ x + y + c ∧ x + y + c ≤ d + 18446744073709551616 * e :=
  ⟨_, _, fun w => call_add64 x y c hx.1 hy.1 hc.1 hc.2 w, by omega, by omega, by omega, by omega, by omega, by omega⟩

end Go.Proofs.Ytoaihbmicdbaiaa
