/- The walks of the numbers: Of. -/
import Derived.Test.YtoaihbmicdbaiaaNumW6
namespace Go.Proofs.Ytoaihbmicdbaiaa
open Go.RowKit DG
attribute [local go_sem ↓] exl_Elem exs_Elem
                 attribute [local go_sem] ldr_Elem str_Elem
attribute [local go_sem] to_quad0

set_option maxHeartbeats 1000000 in
theorem Of_32 (s : ByteArray) (W : World) (hs' : s.size = 32) :
    Calls Try.prog 8 #[.string s] W fun e w' => e = .returned (.tuple #[.agg (quad (bytesNat s.data.toList)), .int .i64 0]) ∧ Below W.heap.size W w' := by
  have hs2 : (s.size : Int) = 32 := by omega
  have HS := hid hs'
  have hsl : s.data.toList.length = 32 := by simpa using HS.out
  have HSL := hid hsl
  clear hsl
  go_enter Try.func8, Try.ntmps8
  go_wp2_with fail
  go_loopw [11] (fun i wr => ∃ k : Nat, k ≤ 32 ∧ i = .int .i64 (k : Int) ∧ wr.heap[W.heap.size]? = some (.cells (ints .u64 (digs (2 ^ 64) (bytesNat (s.data.toList.take k)) 4)) 24 (0, 0)) ∧ Below W.heap.size W wr) (fun i _ => (32 - intOf i).toNat)
  case atStart =>
    have e0 : ints .u64 (digs (2 ^ 64) (bytesNat (s.data.toList.take 0)) 4) = quad 0 := by rw [List.take_zero]; rfl
    refine ⟨0, by omega, rfl, ?_, below_new _⟩
    rw [e0]
    exact alloc_at _ _
  case round =>
    obtain ⟨k, hk, rfl, hq, hb⟩ := hrel
    by_cases hlt : k < 32
    · have cj := ints_cell hq (j := k / 8) (by rw [digs_length]; omega)
      have hf := free_at hq
      have hkz : k < s.size := by omega
      have hi1 : 0 ≤ (k : Int) / 8 := by omega
      have hi2 : (k : Int) / 8 < 4 := by omega
      have hi3 : ((k : Int) / 8).toNat = k / 8 := by omega
      obtain ⟨hst, hlt2⟩ := word_step (n := bytesNat (s.data.toList.take k)) (b := s[k].toNat) (k := k) (m := 4) (by
        have := bytesNat_lt (s.data.toList.take k); rwa [List.length_take, HSL.out, Nat.min_eq_left hk] at this) s[k].toNat_lt (by omega)
      have htk := bytesNat_take_succ s.data.toList k (by rw [HSL.out]; exact hlt)
      rw [show s.data.toList[k]'(by rw [HSL.out]; exact hlt) = s[k] from rfl] at htk
      rw [← htk] at hst
      have hst2 := ints_store hq (k / 8) ((digs (2 ^ 64) (bytesNat (s.data.toList.take k)) 4).getD (k / 8) 0 + s[k].toNat * 2 ^ (8 * (k % 8)))
      rw [← hst, ← or_byte _ _ _ hlt2 s[k].toNat_lt (Nat.mod_lt _ (by decide))] at hst2
      generalize hx : (digs (2 ^ 64) (bytesNat (s.data.toList.take k)) 4).getD (k / 8) 0 = x at *
      have HN := hid hst2
      clear hx hq htk hst hlt2 hst2
      go_wp2_with fail
      refine still_tail 15 (by kernel_rfl) (by kernel_rfl) ?_
      simp only [List.take_succ_cons, List.take_zero, List.drop_succ_cons, List.drop_zero]
      repeat (first | (refine wpStill_step (fun K hK => ?_); go_simp; refine hK _ ?_; clear hK K; try go_ints))
      refine wpStill_nil ?_
      go_wp2_with fail
      exact ⟨⟨k + 1, by omega, by go_num, HN.out, (hb.setCell (by simp) _).drew⟩, by simp [intOf]; omega⟩
    · have hkn : k = 32 := by omega
      subst hkn
      rw [List.take_of_length_le (by rw [HSL.out]; omega), ← quad_ints] at hq
      obtain ⟨z, hz⟩ : ∃ z, bytesNat s.data.toList = z := ⟨_, rfl⟩
      rw [hz] at hq
      have HZ := hid hz
      have gO : hget wr W.heap.size = some (.cells (quad z) 24 (0, 0)) := hq
      have lO := hget_lt gO
      have HB := hid hb
      clear hq hz hb
      go_wp2_with fail
      refine bodyPost_ret (v := .tuple #[.agg (quad z), .int .i64 0]) (results_cell_tmp Try.results8 _ _ (W.heap.size) 24 (quad z) (0, 0) _ (.int .i64 0) (by rfl) (by rfl) (by rw [← hget_eq]; go_simp) Try.underlying24 rfl (by rw [info_Elem]; go_simp)) rfl ?_
      exact ⟨by rw [HZ.out], by repeat (first | exact Below.refl _ _ | exact below_new _ | exact HB.out | assumption | refine Below.drew ?_ | refine Below.drewN ?_ _ | refine below_alloc ?_ _ | refine below_blk' ?_ (by omega) _)⟩

set_option maxHeartbeats 400000 in
theorem Of_no (s : ByteArray) (W : World) (h1 : s.size ≠ 32) (hmax : s.size ≤ 9223372036854775807) :
    Calls Try.prog 8 #[.string s] W fun e w' => e = .returned (.tuple #[.agg (quad 0), .int .i64 2]) ∧ Below W.heap.size W w' := by
  have g1 : ((s.size : Int) != 32) = true := by rw [bne_iff_ne]; omega
  clear h1
  go_enter Try.func8, Try.ntmps8
  go_wp2_with fail
  refine bodyPost_ret (v := .tuple #[.agg (quad 0), .int .i64 2]) (results_cell_tmp Try.results8 _ _ (W.heap.size) 24 (quad 0) (0, 0) _ (.int .i64 2) (by rfl) (by rfl) (by rw [← hget_eq]; go_simp) Try.underlying24 rfl (by rw [info_Elem]; go_simp)) rfl ?_
  exact ⟨rfl, by repeat (first | exact Below.refl _ _ | exact below_new _ | assumption | refine Below.drew ?_ | refine Below.drewN ?_ _ | refine below_alloc ?_ _)⟩

theorem Of_any (s : ByteArray) (W : World) (hmax : s.size ≤ 9223372036854775807) :
    Calls Try.prog 8 #[.string s] W fun e w' => e = .returned (.tuple #[.agg (quad (if s.size = 32 then bytesNat s.data.toList else 0)), .int .i64 (if s.size = 32 then 0 else 2)]) ∧ Below W.heap.size W w' := by
  by_cases h : s.size = 32
  · rw [if_pos h, if_pos h]; exact Of_32 s W h
  · rw [if_neg h, if_neg h]; exact Of_no s W h hmax

end Go.Proofs.Ytoaihbmicdbaiaa
