/- The walk of the law ShaRoots. -/
import Derived.Test.YtjfjbanoikbnoaaDoorShaT3
import Derived.Test.YtjfjbanoikbnoaaDoorShaL1
import Derived.Test.YtjfjbanoikbnoaaDoorLT
namespace Go.Proofs.YtjfjbanoikbnoaaDoor
open Go.RowKit

theorem idxA8 (l : List UInt64) (hl : l.length = 8) (i : Nat) (hi : i < 8) (w : World) : (Instr.index 32 (.agg (wrow l)) (.int .i64 (i : Int))).run Tryd.prog w = .ok (.int .u64 (UW (l.getD i 0))) w := by
  have hsz : (sizeOf 28).run Tryd.prog w = .ok 1 w := by kernel_rfl
  unfold Instr.index
  simp only [Sem.run_bind, asIntOf, Sem.run_pure, Result.andThen_ok, run_underlying Tryd.underlying32]
  rw [if_pos (by omega)]
  simp only [Sem.run_bind, hsz, Result.andThen_ok, Nat.mul_one, Int.toNat_natCast]
  unfold part
  have hagg : (isAgg 28).run Tryd.prog w = .ok false w := by
    unfold isAgg
    rw [Sem.run_bind, run_underlying Tryd.underlying28 w]
    rfl
  simp [Sem.run_bind, hagg, wrow_get l (show i < l.length by omega)]
theorem prime_lt : ∀ k, k < 80 → RT.primes.getD k 0 < 512 := by decide +kernel
theorem rootW_cube (k : Nat) (hk : k < 80) : rootW (UInt64.ofNat (RT.primes.getD k 0)) true = SH.K.getD k 0 := by
  have hp := prime_lt k hk
  rw [RT.cubes k hk]
  show UInt64.ofNat (RT.rootN ((UInt64.ofNat (RT.primes.getD k 0)).toNat * 2 ^ 192) 3 71) = _
  rw [UInt64.toNat_ofNat', Nat.mod_eq_of_lt (a := RT.primes.getD k 0) (by omega)]
def firstL : List UInt64 := [SH.init.a, SH.init.b, SH.init.c, SH.init.d, SH.init.e, SH.init.f, SH.init.g, SH.init.h]
theorem rootW_square (i : Nat) (hi : i < 8) : rootW (UInt64.ofNat (RT.primes.getD i 0)) false = firstL.getD i 0 := by
  have hp := prime_lt i (by omega)
  have h : firstL.getD i 0 = UInt64.ofNat (RT.rootN (RT.primes.getD i 0 * 2 ^ 128) 2 71) := by
    rw [show firstL = _ from RT.squares]
    match i, hi with
    | 0, _ | 1, _ | 2, _ | 3, _ | 4, _ | 5, _ | 6, _ | 7, _ => rfl
  rw [h]
  show UInt64.ofNat (RT.rootN ((UInt64.ofNat (RT.primes.getD i 0)).toNat * 2 ^ 128) 2 71) = _
  rw [UInt64.toNat_ofNat', Nat.mod_eq_of_lt (a := RT.primes.getD i 0) (by omega)]
theorem root_cube_at (k : Nat) (hk : k < 80) (W : World) : Calls Tryd.prog 11 #[.int .u64 ((RT.primes.getD k 0 : Nat) : Int), .bool true] W fun e w' => e = .returned (.int .u64 (UW (SH.K.getD k 0))) ∧ Below W.heap.size W w' := by
  have hp := prime_lt k hk
  have h := root_cube (UInt64.ofNat (RT.primes.getD k 0)) W (by rw [UInt64.toNat_ofNat', Nat.mod_eq_of_lt (by omega)]; exact hp)
  rw [rootW_cube k hk, ← u_lit _ (by omega)] at h
  exact h
theorem root_square_at (k : Nat) (hk : k < 8) (W : World) : Calls Tryd.prog 11 #[.int .u64 ((RT.primes.getD k 0 : Nat) : Int), .bool false] W fun e w' => e = .returned (.int .u64 (UW (firstL.getD k 0))) ∧ Below W.heap.size W w' := by
  have hp := prime_lt k (by omega)
  have h := root_square (UInt64.ofNat (RT.primes.getD k 0)) W (by rw [UInt64.toNat_ofNat', Nat.mod_eq_of_lt (by omega)]; exact hp)
  rw [rootW_square k hk, ← u_lit _ (by omega)] at h
  exact h
theorem first_at (W : World) : Calls Tryd.prog 12 #[] W fun e w' => e = .returned (.agg (wrow firstL)) ∧ Below W.heap.size W w' := rfirst_any W

set_option maxHeartbeats 1000000 in
theorem roots_any (at_ : Nat) (W : World) (hT : Tab W) (hat : at_ < 256) : Calls Tryd.prog 4 #[.int .u8 (at_ : Int)] W fun e w' => e = .returned (.bool true) ∧ Below W.heap.size W w' := by
  have HT := hid hT
  clear hT
  obtain ⟨k, hk⟩ : ∃ k, at_ % 80 = k := ⟨_, rfl⟩
  have hk80 : k < 80 := by omega
  have hmod : (at_ : Int) % 80 = (k : Int) := by omega
  go_enter Tryd.func4, Tryd.ntmps4
  go_wp2_with fail
  refine (primes_80 _).mono ?_
  rintro e w1 ⟨g, cap, rfl, hg, hc, hb1⟩
  have T1 := hid (HT.out.keep hb1)
  have B1 := hid hb1
  have HC := hid hc
  clear hb1 hc HT
  have ck := HC.out k hk80
  have hix := fun w => idx80 SH.K rfl k hk80 w
  have hrc := root_cube_at k hk80
  generalize RT.primes.getD k 0 = q at *
  generalize SH.K.getD k 0 = x at *
  have hk0 : 0 ≤ (k : Int) := by omega
  have hk1 : (k : Int) < 80 := by omega
  have hne : (UW x != UW x) = false := by simp
  have HRC := hid hrc
  clear hrc
  go_wp2_with fail
  have lc := later_cell ck
  refine wp_region_later (by kernel_rfl) (by kernel_rfl) ?_
  repeat ((go_big_quiet_step ((first | (go_at_call 10; exact calls_later (rrounds_any _)) | (go_at_call 11; exact calls_later (HRC.out _))))))
  refine wpQuiet_nil ?_
  intro wL hwL
  obtain ⟨⟨w8, hL⟩, e8⟩ := hwL
  change wL = w8 at e8
  subst e8
  have C2 := hid (fun j (hj : j < 80) => (hL.cell (p := ⟨g, j, none⟩) hg).trans (HC.out j hj))
  have T2 := hid (T1.out.keep hL)
  have B2 := hid (below_to B1.out hL)
  have hg2 : g < wL.heap.size := Nat.lt_of_lt_of_le hg hL.size
  clear hL HC T1 B1 lc ck hix HRC hne hg
  go_wp2_with fail
  clear hk hk80 hmod hk0 hk1
  go_loopw [5] (fun i wr => ∃ n : Nat, n ≤ 8 ∧ i = .int .i64 (n : Int) ∧ Below wL.heap.size wL wr) (fun i _ => (8 - intOf i).toNat)
  case atStart => exact ⟨0, by omega, rfl, Below.refl _ _⟩
  case round =>
    obtain ⟨n, hn, rfl, rb⟩ := hrel
    have RB := hid rb
    by_cases hlt : n < 8
    · have hd : decide ((n : Int) < 8) = true := decide_eq_true (by omega)
      have ck := (rb.cell (p := ⟨g, n, none⟩) hg2).trans (C2.out n (by omega))
      have hix := fun w => idxA8 firstL rfl n hlt w
      have hrc := root_square_at n hlt
      have hfl : ∃ F, F = firstL := ⟨_, rfl⟩
      have hfa := first_at
      obtain ⟨F, hF⟩ := hfl
      rw [← hF] at hix hrc hfa
      generalize RT.primes.getD n 0 = q at *
      generalize F.getD n 0 = x at *
      have hn0 : 0 ≤ (n : Int) := by omega
      have hn1 : (n : Int) < 80 := by omega
      have hne : (UW x != UW x) = false := by simp
      have HRC := hid hrc
      have HFA := hid hfa
      clear hrc hfa hF rb
      go_wp2_with fail
      have lc := later_cell ck
      refine wp_region_later (by kernel_rfl) (by kernel_rfl) ?_
      repeat ((go_big_quiet_step ((first | (go_at_call 12; exact calls_later (HFA.out _)) | (go_at_call 11; exact calls_later (HRC.out _))))))
      refine wpQuiet_nil ?_
      intro wL hwL
      obtain ⟨⟨w8, hL⟩, e8⟩ := hwL
      change wL = w8 at e8
      subst e8
      go_wp2_with fail
      exact ⟨⟨n + 1, by omega, by go_num, below_to RB.out hL⟩, by simp [intOf]; omega⟩
    · have hd : decide ((n : Int) < 8) = false := decide_eq_false (by omega)
      clear rb
      go_wp2_with fail
      refine (alive_any _ (T2.out.keep RB.out)).mono ?_
      rintro e w5 ⟨rfl, hb5⟩
      go_wp2_with fail
      go_ret
      exact ⟨rfl, below_to (below_to B2.out RB.out) hb5⟩

end Go.Proofs.YtjfjbanoikbnoaaDoor
