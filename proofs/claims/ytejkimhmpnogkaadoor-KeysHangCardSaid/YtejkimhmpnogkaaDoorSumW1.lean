/- The walks of the digest: turns of a word (SHA-256). -/
import Derived.Test.YtejkimhmpnogkaaDoorSumQ
import Derived.Test.YtejkimhmpnogkaaDoorLT
namespace Go.Proofs.YtejkimhmpnogkaaDoor
open Go.RowKit

theorem int_u32 {a b : Int} (h : a = b) : Ending.returned (.int .u32 a) = .returned (.int .u32 b) := by rw [h]
theorem and31 (n : Nat) (h0 : 0 < n) (h : n < 32) : bits .and .u64 (IntKind.u64.wrap (-(n : Int))) 31 = ((32 - n : Nat) : Int) := by
  rw [IntKind.wrap_u64, show (-(n : Int)) % 18446744073709551616 = ((18446744073709551616 - n : Nat) : Int) by omega, show (31 : Int) = ((31 : Nat) : Int) from rfl, u64_and_nat _ _ (by omega) (by decide)]
  congr 1
  rw [show (31 : Nat) = 2 ^ 5 - 1 from rfl, Nat.and_two_pow_sub_one_eq_mod]
  omega

set_option maxHeartbeats 400000 in
theorem rot_any (x : UInt32) (n : Nat) (h0 : 0 < n) (h : n < 32) (w : World) :
    Calls Tryd.prog 67 #[.int .u32 (UV x), .int .i64 (-(n : Int))] w fun e w' => e = .returned (.int .u32 (UV (SM.ror n x))) ∧ w = w' := by
  have ha := and31 n h0 h
  obtain ⟨m, hm⟩ : ∃ m, 32 - n = m := ⟨_, rfl⟩
  rw [hm] at ha
  have hm0 : 0 < m := by omega
  have hm1 : m < 32 := by omega
  have HM := hid hm
  clear hm
  go_enter Tryd.func67, Tryd.ntmps67
  go_wp2_with fail
  go_ret
  refine ⟨int_u32 ?_, rfl⟩
  have hmm := HM.out
  rw [v_shr x _ (by omega), v_shl' x _ hm1, v_or, UInt32.or_comm]
  unfold SM.ror
  rw [hmm, show 32 - m = n by omega]

theorem rot_lit (x : UInt32) (n : Nat) (k : Int) (hk : -(n : Int) = k) (h0 : 0 < n) (h : n < 32) (w : World) :
    Calls Tryd.prog 67 #[.int .u32 (UV x), .int .i64 k] w fun e w' => e = .returned (.int .u32 (UV (SM.ror n x))) ∧ w = w' := by
  subst hk; exact rot_any x n h0 h w

set_option maxHeartbeats 400000 in
theorem turn_any (x : UInt32) (n : Nat) (h0 : 0 < n) (h : n < 32) (w : World) :
    Calls Tryd.prog 60 #[.int .u32 (UV x), .int .u64 (n : Int)] w fun e w' => e = .returned (.int .u32 (UV (SM.ror n x))) ∧ w = w' := by
  go_enter Tryd.func60, Tryd.ntmps60
  go_wp2_with fail
  go_ret
  refine ⟨int_u32 ?_, rfl⟩
  rw [v_shr x _ h, v_shl' x _ (by omega), v_or]
  rfl
theorem turn_lit (x : UInt32) (n : Nat) (k : Int) (hk : (n : Int) = k) (h0 : 0 < n) (h : n < 32) (w : World) :
    Calls Tryd.prog 60 #[.int .u32 (UV x), .int .u64 k] w fun e w' => e = .returned (.int .u32 (UV (SM.ror n x))) ∧ w' = w := by
  subst hk; exact rsame (turn_any x n h0 h w)

set_option maxHeartbeats 400000 in
theorem turned_any (x : UInt32) (a b c : Nat) (ha : 0 < a ∧ a < 32) (hb : 0 < b ∧ b < 32) (hc : 0 < c ∧ c < 32) (w : World) :
    Calls Tryd.prog 66 #[.int .u32 (UV x), .int .i64 (a : Int), .int .i64 (b : Int), .int .i64 (c : Int)] w fun e w' => e = .returned (.int .u32 (UV (SM.ror a x ^^^ SM.ror b x ^^^ SM.ror c x))) ∧ w = w' := by
  go_enter Tryd.func66, Tryd.ntmps66
  go_wp2_with fail
  refine (rot_any x a ha.1 ha.2 _).mono ?_
  rintro e w' ⟨rfl, rfl⟩
  go_wp2_with fail
  refine (rot_any x b hb.1 hb.2 _).mono ?_
  rintro e w' ⟨rfl, rfl⟩
  go_wp2_with fail
  refine (rot_any x c hc.1 hc.2 _).mono ?_
  rintro e w' ⟨rfl, rfl⟩
  go_wp2_with fail
  go_ret
  exact ⟨rfl, rfl⟩

set_option maxHeartbeats 400000 in
theorem moved_any (x : UInt32) (a b c : Nat) (ha : 0 < a ∧ a < 32) (hb : 0 < b ∧ b < 32) (hc : 0 < c ∧ c < 32) (w : World) :
    Calls Tryd.prog 68 #[.int .u32 (UV x), .int .i64 (a : Int), .int .i64 (b : Int), .int .i64 (c : Int)] w fun e w' => e = .returned (.int .u32 (UV (SM.ror a x ^^^ SM.ror b x ^^^ (x >>> UInt32.ofNat c)))) ∧ w = w' := by
  go_enter Tryd.func68, Tryd.ntmps68
  go_wp2_with fail
  refine (rot_any x a ha.1 ha.2 _).mono ?_
  rintro e w' ⟨rfl, rfl⟩
  go_wp2_with fail
  refine (rot_any x b hb.1 hb.2 _).mono ?_
  rintro e w' ⟨rfl, rfl⟩
  go_wp2_with fail
  go_ret
  refine ⟨int_u32 ?_, rfl⟩
  rw [v_shr x _ hc.2, v_xor]

end Go.Proofs.YtejkimhmpnogkaaDoor
