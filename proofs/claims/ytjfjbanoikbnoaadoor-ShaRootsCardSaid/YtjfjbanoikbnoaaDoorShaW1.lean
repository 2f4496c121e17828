/- The walks of the digest: turns of a word. -/
import Derived.Test.YtjfjbanoikbnoaaDoorShaP
import Derived.Test.YtjfjbanoikbnoaaDoorLT
namespace Go.Proofs.YtjfjbanoikbnoaaDoor
open Go.RowKit

theorem int_u64 {a b : Int} (h : a = b) : Ending.returned (.int .u64 a) = .returned (.int .u64 b) := by rw [h]

theorem and63 (n : Nat) (h0 : 0 < n) (h : n < 64) : bits .and .u64 (IntKind.u64.wrap (-(n : Int))) 63 = ((64 - n : Nat) : Int) := by
  rw [IntKind.wrap_u64, show (-(n : Int)) % 18446744073709551616 = ((18446744073709551616 - n : Nat) : Int) by omega, show (63 : Int) = ((63 : Nat) : Int) from rfl, u64_and_nat _ _ (by omega) (by decide)]
  congr 1
  rw [show (63 : Nat) = 2 ^ 6 - 1 from rfl, Nat.and_two_pow_sub_one_eq_mod]
  omega
theorem or_toNat (x y : UInt64) : (x ||| y) = (y ||| x) := UInt64.or_comm x y

set_option maxHeartbeats 400000 in
theorem rot_any (x : UInt64) (n : Nat) (h0 : 0 < n) (h : n < 64) (w : World) :
    Calls Tryd.prog 19 #[.int .u64 (UW x), .int .i64 (-(n : Int))] w fun e w' => e = .returned (.int .u64 (UW (SH.ror n x))) ∧ w = w' := by
  have ha := and63 n h0 h
  obtain ⟨m, hm⟩ : ∃ m, 64 - n = m := ⟨_, rfl⟩
  rw [hm] at ha
  have hm0 : 0 < m := by omega
  have hm1 : m < 64 := by omega
  have HM := hid hm
  clear hm
  go_enter Tryd.func19, Tryd.ntmps19
  go_wp2_with fail
  go_ret
  refine ⟨int_u64 ?_, rfl⟩
  have hmm := HM.out
  rw [u_shr x _ (by omega), u_shl x _ hm1, u_or, or_toNat]
  unfold SH.ror
  rw [hmm, show 64 - m = n by omega]

set_option maxHeartbeats 400000 in
theorem right_any (x : UInt64) (n : Nat) (h0 : 0 < n) (h : n < 64) (w : World) :
    Calls Tryd.prog 21 #[.int .u64 (UW x), .int .u64 (n : Int)] w fun e w' => e = .returned (.int .u64 (UW (SH.ror n x))) ∧ w = w' := by
  go_enter Tryd.func21, Tryd.ntmps21
  go_wp2_with fail
  go_ret
  refine ⟨int_u64 ?_, rfl⟩
  rw [u_shr x _ h, u_shl x _ (by omega), u_or]
  rfl

theorem right_lit (x : UInt64) (n : Nat) (k : Int) (hk : (n : Int) = k) (h0 : 0 < n) (h : n < 64) (w : World) :
    Calls Tryd.prog 21 #[.int .u64 (UW x), .int .u64 k] w fun e w' => e = .returned (.int .u64 (UW (SH.ror n x))) ∧ w' = w := by
  subst hk; exact rsame (right_any x n h0 h w)

/-- Turned by each of a list, and all together. -/
def mixl (x : UInt64) (ns : List Nat) : UInt64 := ns.foldl (fun y n => y ^^^ SH.ror n x) 0
theorem mixl_snoc (x : UInt64) (ns : List Nat) (n : Nat) : mixl x (ns ++ [n]) = mixl x ns ^^^ SH.ror n x := by simp [mixl]

set_option maxHeartbeats 400000 in
theorem mixed_any (x : UInt64) (bw cap : Nat) (ns : List Nat) (W : World) (hn : ∀ n ∈ ns, 0 < n ∧ n < 64) (hl : ns.length ≤ 3) (hcap : ns.length ≤ cap)
    (hc : ∀ j, j < ns.length → W.cell? ⟨bw, j, none⟩ = some (.int .i64 ((ns.getD j 0 : Nat) : Int))) :
    Calls Tryd.prog 18 #[.int .u64 (UW x), .slice (some ⟨bw, 0, none⟩) ns.length cap] W fun e w' => e = .returned (.int .u64 (UW (mixl x ns))) ∧ W = w' := by
  have HC := hid hc
  have HN := hid hn
  clear hc hn
  generalize hlen : ns.length = len at *
  have HL := hid hlen
  clear hlen
  go_enter Tryd.func18, Tryd.ntmps18
  go_wp2_with fail
  go_loop [4, 9] (fun y i => ∃ k : Nat, k ≤ len ∧ i = .int .i64 (k : Int) ∧ y = .int .u64 (UW (mixl x (ns.take k)))) (fun _ i => (len - intOf i).toNat)
  case atStart => exact ⟨0, Nat.zero_le _, rfl, rfl⟩
  case round =>
    obtain ⟨k, hk, rfl, rfl⟩ := hrel
    by_cases hlt : k < len
    · have hd : decide ((k : Int) < (len : Int)) = true := decide_eq_true (by omega)
      have ck := HC.out k hlt
      have hkl : k < ns.length := by rw [HL.out]; exact hlt
      have hmem : ns.getD k 0 ∈ ns := by simp [hkl]
      have hb := HN.out _ hmem
      have hs : mixl x (ns.take (k + 1)) = mixl x (ns.take k) ^^^ SH.ror (ns.getD k 0) x := by
        rw [List.take_succ_eq_append_getElem hkl, mixl_snoc]; simp [hkl]
      have HS := hid hs
      clear hs hmem hkl
      generalize ns.getD k 0 = n at *
      generalize mixl x (ns.take k) = y at *
      go_wp2_with fail
      refine (rot_any x n hb.1 hb.2 _).mono ?_
      rintro e w' ⟨rfl, rfl⟩
      go_wp2_with fail
      go_round
      case rel => exact ⟨k + 1, by omega, by go_num, by rw [HS.out]⟩
      case measure => simp [intOf]; omega
    · have hd : decide ((k : Int) < (len : Int)) = false := decide_eq_false (by omega)
      have hkk : k = len := by omega
      have he : mixl x (ns.take k) = mixl x ns := by rw [hkk, List.take_of_length_le (by rw [HL.out]; omega)]
      rw [he]
      clear he hkk
      go_wp2_with fail
      go_ret
      exact ⟨rfl, rfl⟩

end Go.Proofs.YtjfjbanoikbnoaaDoor
