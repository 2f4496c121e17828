/- Montgomery's curve, the laws: a known run; what a secret and a public key make together. Montgomery's curve, the laws: two and three make the same. Montgomery's curve, the laws: keys that are the same. Openers for arguments: a slice of structs of one-cell fields, at a plain address. -/
import Derived.Test.YtceljjnohjnepaaM19
import Derived.Test.YtceljjnohjnepaaM01
import Derived.ProofKit
import Derived.OpenShut
import Derived.ShutString
import Derived.ChangeOld
import Derived.Deep.Slices
import Derived.Deep.Fields
import Derived.ChangeSame
namespace Go.Proofs.Ytceljjnohjnepaa
open Go Go.RowKit DG EG

set_option maxRecDepth 100000 in
theorem publicS_u {sec : ByteArray} (h : sec.size = 32) : publicS sec = fB32 (uOf (Pt.mul (ck sec) bP)) := by
  unfold publicS
  rw [if_pos h, public_u h]
set_option maxRecDepth 100000 in
theorem publicE_u {sec : ByteArray} (h : sec.size = 32) : publicE sec = 0 := by
  unfold publicE
  rw [if_pos h]
set_option maxRecDepth 100000 in
theorem fB32_size (x : FP) : (fB32 x).size = 32 := enc_size _ _
set_option maxRecDepth 100000 in
theorem short_pub : publicE ⟨#[115, 104, 111, 114, 116]⟩ = 2 := by decide +kernel
set_option maxRecDepth 100000 in
set_option maxHeartbeats 1000000 in
theorem malive_core (A B Z p q S : ByteArray) (W : World) (hA : secB 97 = A) (hB : secB 98 = B) (hZ : secB 0 = Z) (hp : publicS A = p) (hq : publicS B = q) (h1 : publicE A = 0) (h2 : publicE B = 0)
    (hs : sharedS A q = S) (ht : sharedS B p = S) (h3 : sharedE A q = 0) (h4 : sharedE B p = 0) (hS : S.size = 32) (h5 : sharedE A Z = 80) :
    Calls Try.prog 11 #[] W fun e w' => e = .returned (.bool true) ∧ Below W.heap.size W w' := by
  have K1 : Hid (∀ w, Calls Try.prog 38 #[.int .u8 97] w fun r w' => r = .returned (.string A) ∧ Below w.heap.size w w') := hid (fun w => hA ▸ secret_any 97 (by decide) w)
  have K2 : Hid (∀ w, Calls Try.prog 38 #[.int .u8 98] w fun r w' => r = .returned (.string B) ∧ Below w.heap.size w w') := hid (fun w => hB ▸ secret_any 98 (by decide) w)
  have K3 : Hid (∀ w, Calls Try.prog 38 #[.int .u8 0] w fun r w' => r = .returned (.string Z) ∧ Below w.heap.size w w') := hid (fun w => hZ ▸ secret_any 0 (by decide) w)
  have P1 := fun w => public_any A w
  rw [hp, h1] at P1
  have P1 := hid P1
  have P2 := fun w => public_any B w
  rw [hq, h2] at P2
  have P2 := hid P2
  have S1 := fun w => shared_any A q w
  rw [hs, h3] at S1
  have S1 := hid S1
  have S2 := fun w => shared_any B p w
  rw [ht, h4] at S2
  have S2 := hid S2
  have S3 := fun w => shared_any A Z w
  rw [h5] at S3
  have S3 := hid S3
  have P3 := fun w => public_any ⟨#[115, 104, 111, 114, 116]⟩ w
  rw [short_pub] at P3
  have P3 := hid P3
  generalize sharedS A Z = X at *
  generalize publicS ⟨#[115, 104, 111, 114, 116]⟩ = Y at *
  have hSS : (S.toList == S.toList) = true := beq_self_eq_true _
  clear hA hB hZ hp hq h1 h2 hs ht h3 h4 h5
  go_enter Try.func11, Try.ntmps11
  go_wp2_with fail
  refine (K1.out _).mono ?_
  rintro e w1 ⟨rfl, hb1⟩
  have b1 := hid hb1
  clear hb1
  skip
  go_wp2_with fail
  skip
  refine (P1.out _).mono ?_
  rintro e w2 ⟨rfl, hb2⟩
  have b2 : Hid (Below W.heap.size W w2) := below_to (by repeat (first | exact Below.refl _ _ | exact below_new _ | exact b1.out | assumption | refine Below.drew ?_ | refine Below.drewN ?_ _ | refine below_alloc ?_ _ | refine below_blk' ?_ (by omega) _)) hb2
  clear hb2
  clear b1
  go_wp2_with fail
  skip
  refine (K2.out _).mono ?_
  rintro e w3 ⟨rfl, hb3⟩
  have b3 : Hid (Below W.heap.size W w3) := below_to (by repeat (first | exact Below.refl _ _ | exact below_new _ | exact b2.out | assumption | refine Below.drew ?_ | refine Below.drewN ?_ _ | refine below_alloc ?_ _ | refine below_blk' ?_ (by omega) _)) hb3
  clear hb3
  clear b2
  go_wp2_with fail
  skip
  refine (P2.out _).mono ?_
  rintro e w4 ⟨rfl, hb4⟩
  have b4 : Hid (Below W.heap.size W w4) := below_to (by repeat (first | exact Below.refl _ _ | exact below_new _ | exact b3.out | assumption | refine Below.drew ?_ | refine Below.drewN ?_ _ | refine below_alloc ?_ _ | refine below_blk' ?_ (by omega) _)) hb4
  clear hb4
  clear b3
  go_wp2_with fail
  skip
  refine (K1.out _).mono ?_
  rintro e w5 ⟨rfl, hb5⟩
  have b5 : Hid (Below W.heap.size W w5) := below_to (by repeat (first | exact Below.refl _ _ | exact below_new _ | exact b4.out | assumption | refine Below.drew ?_ | refine Below.drewN ?_ _ | refine below_alloc ?_ _ | refine below_blk' ?_ (by omega) _)) hb5
  clear hb5
  clear b4
  go_wp2_with fail
  skip
  refine (S1.out _).mono ?_
  rintro e w6 ⟨rfl, hb6⟩
  have b6 : Hid (Below W.heap.size W w6) := below_to (by repeat (first | exact Below.refl _ _ | exact below_new _ | exact b5.out | assumption | refine Below.drew ?_ | refine Below.drewN ?_ _ | refine below_alloc ?_ _ | refine below_blk' ?_ (by omega) _)) hb6
  clear hb6
  clear b5
  go_wp2_with fail
  skip
  refine (K2.out _).mono ?_
  rintro e w7 ⟨rfl, hb7⟩
  have b7 : Hid (Below W.heap.size W w7) := below_to (by repeat (first | exact Below.refl _ _ | exact below_new _ | exact b6.out | assumption | refine Below.drew ?_ | refine Below.drewN ?_ _ | refine below_alloc ?_ _ | refine below_blk' ?_ (by omega) _)) hb7
  clear hb7
  clear b6
  go_wp2_with fail
  skip
  refine (S2.out _).mono ?_
  rintro e w8 ⟨rfl, hb8⟩
  have b8 : Hid (Below W.heap.size W w8) := below_to (by repeat (first | exact Below.refl _ _ | exact below_new _ | exact b7.out | assumption | refine Below.drew ?_ | refine Below.drewN ?_ _ | refine below_alloc ?_ _ | refine below_blk' ?_ (by omega) _)) hb8
  clear hb8
  clear b7
  go_wp2_with fail
  skip
  refine (K1.out _).mono ?_
  rintro e w9 ⟨rfl, hb9⟩
  have b9 : Hid (Below W.heap.size W w9) := below_to (by repeat (first | exact Below.refl _ _ | exact below_new _ | exact b8.out | assumption | refine Below.drew ?_ | refine Below.drewN ?_ _ | refine below_alloc ?_ _ | refine below_blk' ?_ (by omega) _)) hb9
  clear hb9
  clear b8
  go_wp2_with fail
  skip
  refine (K3.out _).mono ?_
  rintro e w10 ⟨rfl, hb10⟩
  have b10 : Hid (Below W.heap.size W w10) := below_to (by repeat (first | exact Below.refl _ _ | exact below_new _ | exact b9.out | assumption | refine Below.drew ?_ | refine Below.drewN ?_ _ | refine below_alloc ?_ _ | refine below_blk' ?_ (by omega) _)) hb10
  clear hb10
  clear b9
  go_wp2_with fail
  skip
  refine (S3.out _).mono ?_
  rintro e w11 ⟨rfl, hb11⟩
  have b11 : Hid (Below W.heap.size W w11) := below_to (by repeat (first | exact Below.refl _ _ | exact below_new _ | exact b10.out | assumption | refine Below.drew ?_ | refine Below.drewN ?_ _ | refine below_alloc ?_ _ | refine below_blk' ?_ (by omega) _)) hb11
  clear hb11
  clear b10
  go_wp2_with fail
  skip
  refine (P3.out _).mono ?_
  rintro e w12 ⟨rfl, hb12⟩
  have b12 : Hid (Below W.heap.size W w12) := below_to (by repeat (first | exact Below.refl _ _ | exact below_new _ | exact b11.out | assumption | refine Below.drew ?_ | refine Below.drewN ?_ _ | refine below_alloc ?_ _ | refine below_blk' ?_ (by omega) _)) hb12
  clear hb12
  clear b11
  go_wp2_with fail
  go_ret
  exact ⟨rfl, b12.out⟩
set_option maxRecDepth 100000 in
theorem malive_any (W : World) : Calls Try.prog 11 #[] W fun e w' => e = .returned (.bool true) ∧ Below W.heap.size W w' := by
  have a1 : (secB 97).size = 32 := rfl
  have a2 : (secB 98).size = 32 := rfl
  have a3 : (secB 0).size = 32 := rfl
  have s1 := sharedS_u (sec := secB 97) a1 (ck_cop a2)
  have s2 := sharedS_u (sec := secB 98) a2 (ck_cop a1)
  rw [← publicS_u a2] at s1
  rw [← publicS_u a1, Nat.mul_comm] at s2
  exact malive_core _ _ _ _ _ (fB32 (uOf (Pt.mul (ck (secB 97) * ck (secB 98)) bP))) W rfl rfl rfl rfl rfl (publicE_u a1) (publicE_u a2) s1.1 s2.1 s1.2 s2.2 (fB32_size _) (shared_weak a1 a3 (by decide +kernel))

set_option maxRecDepth 100000 in
set_option maxHeartbeats 1000000 in
theorem mshared_any (k p : ByteArray) (W : World) : Calls Try.prog 3 #[.string k, .string p] W fun e w' => e = .returned (.bool true) ∧ Below W.heap.size W w' := by
  have L1 := hid (fun w => malive_any w)
  have S1 := fun w => shared_any k p w
  have S2 := fun w => rshared_any k p w
  have P1 := fun w => public_any k w
  have P2 := fun w => rpublic_any k w
  generalize sharedS k p = S at *
  generalize sharedE k p = e at *
  generalize publicS k = P at *
  generalize publicE k = f at *
  have S1 := hid S1
  have S2 := hid S2
  have P1 := hid P1
  have P2 := hid P2
  have hS : (S.toList == S.toList) = true := beq_self_eq_true _
  have hP : (P.toList == P.toList) = true := beq_self_eq_true _
  have he : (e == e) = true := beq_self_eq_true _
  have hf : (f == f) = true := beq_self_eq_true _
  go_enter Try.func3, Try.ntmps3
  by_cases hk : k.size ≤ 4096
  · have hd : decide (4096 < (k.size : Int)) = false := decide_eq_false (by omega)
    by_cases hp : p.size ≤ 4096
    · have hd2 : decide (4096 < (p.size : Int)) = false := decide_eq_false (by omega)
      clear hk hp
      go_wp2_with fail
      refine (S1.out _).mono ?_
      rintro e w1 ⟨rfl, hb1⟩
      have b1 := hid hb1
      clear hb1
      skip
      go_wp2_with fail
      skip
      refine (S2.out _).mono ?_
      rintro e w2 ⟨rfl, hb2⟩
      have b2 : Hid (Below W.heap.size W w2) := below_to (by repeat (first | exact Below.refl _ _ | exact below_new _ | exact b1.out | assumption | refine Below.drew ?_ | refine Below.drewN ?_ _ | refine below_alloc ?_ _ | refine below_blk' ?_ (by omega) _)) hb2
      clear hb2
      clear b1
      go_wp2_with fail
      skip
      refine (P1.out _).mono ?_
      rintro e w3 ⟨rfl, hb3⟩
      have b3 : Hid (Below W.heap.size W w3) := below_to (by repeat (first | exact Below.refl _ _ | exact below_new _ | exact b2.out | assumption | refine Below.drew ?_ | refine Below.drewN ?_ _ | refine below_alloc ?_ _ | refine below_blk' ?_ (by omega) _)) hb3
      clear hb3
      clear b2
      go_wp2_with fail
      skip
      refine (P2.out _).mono ?_
      rintro e w4 ⟨rfl, hb4⟩
      have b4 : Hid (Below W.heap.size W w4) := below_to (by repeat (first | exact Below.refl _ _ | exact below_new _ | exact b3.out | assumption | refine Below.drew ?_ | refine Below.drewN ?_ _ | refine below_alloc ?_ _ | refine below_blk' ?_ (by omega) _)) hb4
      clear hb4
      clear b3
      go_wp2_with fail
      skip
      refine (L1.out _).mono ?_
      rintro e w5 ⟨rfl, hb5⟩
      have b5 : Hid (Below W.heap.size W w5) := below_to (by repeat (first | exact Below.refl _ _ | exact below_new _ | exact b4.out | assumption | refine Below.drew ?_ | refine Below.drewN ?_ _ | refine below_alloc ?_ _ | refine below_blk' ?_ (by omega) _)) hb5
      clear hb5
      clear b4
      go_wp2_with fail
      go_ret
      exact ⟨rfl, b5.out⟩
    · have hd2 : decide (4096 < (p.size : Int)) = true := decide_eq_true (by omega)
      clear hk hp
      go_wp2_with fail
      refine (L1.out _).mono ?_
      rintro e w1 ⟨rfl, hb1⟩
      go_wp2_with fail
      go_ret
      exact ⟨rfl, hb1⟩
  · have hd : decide (4096 < (k.size : Int)) = true := decide_eq_true (by omega)
    clear hk
    go_wp2_with fail
    refine (L1.out _).mono ?_
    rintro e w1 ⟨rfl, hb1⟩
    go_wp2_with fail
    go_ret
    exact ⟨rfl, hb1⟩

end Go.Proofs.Ytceljjnohjnepaa

namespace Go.Proofs.Ytceljjnohjnepaa
open Go Go.RowKit DG EG

set_option maxRecDepth 100000 in
theorem mboth_bad (a b c : ByteArray) (W : World) (h : ¬ (a.size = 32 ∧ b.size = 32 ∧ c.size = 32)) : Calls Try.prog 4 #[.string a, .string b, .string c] W fun e w' => e = .returned (.bool true) ∧ Below W.heap.size W w' := by
  have L1 := hid (fun w => malive_any w)
  go_enter Try.func4, Try.ntmps4
  obtain hh | hh | hh : a.size ≠ 32 ∨ (a.size = 32 ∧ b.size ≠ 32) ∨ (a.size = 32 ∧ b.size = 32 ∧ c.size ≠ 32) := by omega
  · have h1 : ((a.size : Int) != 32) = true := by rw [bne_iff_ne]; omega
    clear h hh
    go_wp2_with fail
    refine (L1.out _).mono ?_
    rintro e w1 ⟨rfl, hb1⟩
    go_wp2_with fail
    go_ret
    exact ⟨rfl, hb1⟩
  · have h1 : ((a.size : Int) != 32) = false := by rw [bne_eq_false_iff_eq]; omega
    have h2 : ((b.size : Int) != 32) = true := by rw [bne_iff_ne]; omega
    clear h hh
    go_wp2_with fail
    refine (L1.out _).mono ?_
    rintro e w1 ⟨rfl, hb1⟩
    go_wp2_with fail
    go_ret
    exact ⟨rfl, hb1⟩
  · have h1 : ((a.size : Int) != 32) = false := by rw [bne_eq_false_iff_eq]; omega
    have h2 : ((b.size : Int) != 32) = false := by rw [bne_eq_false_iff_eq]; omega
    have h3 : ((c.size : Int) != 32) = true := by rw [bne_iff_ne]; omega
    clear h hh
    go_wp2_with fail
    refine (L1.out _).mono ?_
    rintro e w1 ⟨rfl, hb1⟩
    go_wp2_with fail
    go_ret
    exact ⟨rfl, hb1⟩
set_option maxRecDepth 100000 in
set_option maxHeartbeats 1000000 in
theorem mboth_core (a b c p q S X U : ByteArray) (W : World) (ha : a.size = 32) (hb : b.size = 32) (hc : c.size = 32) (hp : publicS a = p) (hq : publicS b = q)
    (s1 : sharedS a q = S ∧ sharedE a q = 0) (s2 : sharedS b p = S ∧ sharedE b p = 0) (s3 : sharedS c S = X ∧ sharedE c S = 0) (s4 : sharedS c p = U ∧ sharedE c p = 0) (s5 : sharedS b U = X ∧ sharedE b U = 0) :
    Calls Try.prog 4 #[.string a, .string b, .string c] W fun e w' => e = .returned (.bool true) ∧ Below W.heap.size W w' := by
  have P1 := fun w => public_any a w
  rw [hp, publicE_u ha] at P1
  have P1 := hid P1
  have P2 := fun w => public_any b w
  rw [hq, publicE_u hb] at P2
  have P2 := hid P2
  have S1 := fun w => shared_any a q w
  rw [s1.1, s1.2] at S1
  have S1 := hid S1
  have S2 := fun w => shared_any b p w
  rw [s2.1, s2.2] at S2
  have S2 := hid S2
  have S3 := fun w => shared_any c S w
  rw [s3.1, s3.2] at S3
  have S3 := hid S3
  have S4 := fun w => shared_any c p w
  rw [s4.1, s4.2] at S4
  have S4 := hid S4
  have S5 := fun w => shared_any b U w
  rw [s5.1, s5.2] at S5
  have S5 := hid S5
  have L1 := hid (fun w => malive_any w)
  have hSS : (S.toList == S.toList) = true := beq_self_eq_true _
  have hSN : (S.toList != S.toList) = false := by rw [bne_eq_false_iff_eq]
  have hXX : (X.toList == X.toList) = true := beq_self_eq_true _
  have h1 : ((a.size : Int) != 32) = false := by rw [bne_eq_false_iff_eq]; omega
  have h2 : ((b.size : Int) != 32) = false := by rw [bne_eq_false_iff_eq]; omega
  have h3 : ((c.size : Int) != 32) = false := by rw [bne_eq_false_iff_eq]; omega
  clear hp hq s1 s2 s3 s4 s5 ha hb hc
  go_enter Try.func4, Try.ntmps4
  go_wp2_with fail
  refine (P1.out _).mono ?_
  rintro e w1 ⟨rfl, hb1⟩
  have b1 := hid hb1
  clear hb1
  skip
  go_wp2_with fail
  skip
  refine (P2.out _).mono ?_
  rintro e w2 ⟨rfl, hb2⟩
  have b2 : Hid (Below W.heap.size W w2) := below_to (by repeat (first | exact Below.refl _ _ | exact below_new _ | exact b1.out | assumption | refine Below.drew ?_ | refine Below.drewN ?_ _ | refine below_alloc ?_ _ | refine below_blk' ?_ (by omega) _)) hb2
  clear hb2
  clear b1
  go_wp2_with fail
  skip
  refine (S1.out _).mono ?_
  rintro e w3 ⟨rfl, hb3⟩
  have b3 : Hid (Below W.heap.size W w3) := below_to (by repeat (first | exact Below.refl _ _ | exact below_new _ | exact b2.out | assumption | refine Below.drew ?_ | refine Below.drewN ?_ _ | refine below_alloc ?_ _ | refine below_blk' ?_ (by omega) _)) hb3
  clear hb3
  clear b2
  go_wp2_with fail
  skip
  refine (S2.out _).mono ?_
  rintro e w4 ⟨rfl, hb4⟩
  have b4 : Hid (Below W.heap.size W w4) := below_to (by repeat (first | exact Below.refl _ _ | exact below_new _ | exact b3.out | assumption | refine Below.drew ?_ | refine Below.drewN ?_ _ | refine below_alloc ?_ _ | refine below_blk' ?_ (by omega) _)) hb4
  clear hb4
  clear b3
  go_wp2_with fail
  skip
  refine (S3.out _).mono ?_
  rintro e w5 ⟨rfl, hb5⟩
  have b5 : Hid (Below W.heap.size W w5) := below_to (by repeat (first | exact Below.refl _ _ | exact below_new _ | exact b4.out | assumption | refine Below.drew ?_ | refine Below.drewN ?_ _ | refine below_alloc ?_ _ | refine below_blk' ?_ (by omega) _)) hb5
  clear hb5
  clear b4
  go_wp2_with fail
  skip
  refine (S4.out _).mono ?_
  rintro e w6 ⟨rfl, hb6⟩
  have b6 : Hid (Below W.heap.size W w6) := below_to (by repeat (first | exact Below.refl _ _ | exact below_new _ | exact b5.out | assumption | refine Below.drew ?_ | refine Below.drewN ?_ _ | refine below_alloc ?_ _ | refine below_blk' ?_ (by omega) _)) hb6
  clear hb6
  clear b5
  go_wp2_with fail
  skip
  refine (S5.out _).mono ?_
  rintro e w7 ⟨rfl, hb7⟩
  have b7 : Hid (Below W.heap.size W w7) := below_to (by repeat (first | exact Below.refl _ _ | exact below_new _ | exact b6.out | assumption | refine Below.drew ?_ | refine Below.drewN ?_ _ | refine below_alloc ?_ _ | refine below_blk' ?_ (by omega) _)) hb7
  clear hb7
  clear b6
  go_wp2_with fail
  skip
  refine (L1.out _).mono ?_
  rintro e w8 ⟨rfl, hb8⟩
  have b8 : Hid (Below W.heap.size W w8) := below_to (by repeat (first | exact Below.refl _ _ | exact below_new _ | exact b7.out | assumption | refine Below.drew ?_ | refine Below.drewN ?_ _ | refine below_alloc ?_ _ | refine below_blk' ?_ (by omega) _)) hb8
  clear hb8
  clear b7
  go_wp2_with fail
  go_ret
  exact ⟨rfl, b8.out⟩
set_option maxRecDepth 100000 in
theorem mboth_any (a b c : ByteArray) (W : World) : Calls Try.prog 4 #[.string a, .string b, .string c] W fun e w' => e = .returned (.bool true) ∧ Below W.heap.size W w' := by
  by_cases h : a.size = 32 ∧ b.size = 32 ∧ c.size = 32
  · obtain ⟨ha, hb, hc⟩ := h
    have s1 := sharedS_u (sec := a) ha (ck_cop hb)
    have s2 := sharedS_u (sec := b) hb (ck_cop ha)
    have s3 := sharedS_u (sec := c) hc (dvd_no (ck_cop ha) (ck_cop hb))
    have s4 := sharedS_u (sec := c) hc (ck_cop ha)
    have s5 := sharedS_u (sec := b) hb (dvd_no (ck_cop hc) (ck_cop ha))
    rw [← publicS_u hb] at s1
    rw [← publicS_u ha, Nat.mul_comm] at s2
    rw [← publicS_u ha] at s4
    rw [show ck b * (ck c * ck a) = ck c * (ck a * ck b) by rw [Nat.mul_comm, Nat.mul_assoc]] at s5
    exact mboth_core a b c _ _ _ _ _ W ha hb hc rfl rfl s1 s2 s3 s4 s5
  · exact mboth_bad a b c W h

end Go.Proofs.Ytceljjnohjnepaa

namespace Go.Proofs.Ytceljjnohjnepaa
open Go Go.RowKit DG EG

set_option maxRecDepth 100000 in
theorem u8_xor (x y : UInt8) : bits .xor .u8 (x.toNat : Int) (y.toNat : Int) = ((x ^^^ y).toNat : Int) := by
  rw [u8_xor_nat _ _ x.toNat_lt y.toNat_lt, UInt8.toNat_xor]
set_option maxRecDepth 100000 in
theorem u8_and (x y : UInt8) : bits .and .u8 (x.toNat : Int) (y.toNat : Int) = ((x &&& y).toNat : Int) := by
  rw [u8_and_nat _ _ x.toNat_lt y.toNat_lt, UInt8.toNat_and]
set_option maxRecDepth 100000 in
theorem Laid.keep {w w' : World} {b : Nat} {l : List UInt8} (h : Laid w b l) (hb : Below w.heap.size w w') : Laid w' b l := by
  obtain ⟨C, T, n, h1, h2, h3⟩ := h.ex
  exact ⟨⟨C, T, n, keepB hb h1, h2, h3⟩⟩
set_option maxRecDepth 100000 in
/-- The same number modulo the prime, the same key. -/
theorem shared_same {k p q : ByteArray} (hp : p.size = 32) (hq : q.size = 32) (h : fp (dY p) = fp (dY q)) : sharedS k p = sharedS k q ∧ sharedE k p = sharedE k q := by
  have e : mul32 k (dY p) = mul32 k (dY q) := by rw [mul32_f k (dY_lt _), mul32_f k (dY_lt _), h]
  unfold sharedS sharedE
  rw [e, hp, hq]
  exact ⟨rfl, rfl⟩
set_option maxRecDepth 100000 in
theorem shared_clamp {k c p : ByteArray} (hk : k.size = 32) (hc : c.size = 32) (h : clampL k.data.toList = clampL c.data.toList) : sharedS k p = sharedS c p ∧ sharedE k p = sharedE c p := by
  have e : ∀ u, mul32 k u = mul32 c u := fun u => by unfold mul32; rw [h]
  unfold sharedS sharedE
  rw [e, hk, hc]
  exact ⟨rfl, rfl⟩
set_option maxRecDepth 100000 in
theorem dY_31 {l : List UInt8} (h : l.length = 32) (x : UInt8) : dY ⟨(l.set 31 x).toArray⟩ = bytesNat (l.take 31) + x.toNat % 128 * t248 := by
  unfold dY
  show bytesNat (l.set 31 x) % t255 = _
  rw [set31 l h, top_nat l h]
  have h0 := low_lt l
  generalize bytesNat (l.take 31) = lo at *
  have hx := x.toNat_lt
  generalize x.toNat = y at *
  unfold t255 t248 at *
  omega
set_option maxRecDepth 100000 in
theorem set_size {l : List UInt8} (h : l.length = 32) (i : Nat) (x : UInt8) : (⟨(l.set i x).toArray⟩ : ByteArray).size = 32 := by
  show (l.set i x).toArray.size = 32
  simp [h]
set_option maxRecDepth 100000 in
theorem clamp_low : ∀ a b : Nat, a < 256 → b < 256 → (a ^^^ (b &&& 7)) &&& 248 = a &&& 248 := by
  intro a b _ _
  refine Nat.eq_of_testBit_eq fun i => ?_
  rw [Nat.testBit_and, Nat.testBit_and, Nat.testBit_xor, Nat.testBit_and]
  have : Nat.testBit 7 i = false ∨ Nat.testBit 248 i = false := by
    by_cases h : i < 3
    · right
      have : ∀ i, i < 3 → Nat.testBit 248 i = false := by decide
      exact this i h
    · left
      exact Nat.testBit_lt_two_pow (Nat.lt_of_lt_of_le (by decide : 7 < 2 ^ 3) (Nat.pow_le_pow_right (by decide) (by omega)))
  rcases this with h | h <;> rw [h] <;> simp
set_option maxRecDepth 100000 in
theorem clamp_high : ∀ a b : Nat, a < 256 → b < 256 → ((a ^^^ (b &&& 192)) &&& 127) ||| 64 = (a &&& 127) ||| 64 := by
  intro a b _ _
  refine Nat.eq_of_testBit_eq fun i => ?_
  rw [Nat.testBit_or, Nat.testBit_or, Nat.testBit_and, Nat.testBit_and, Nat.testBit_xor, Nat.testBit_and]
  have : Nat.testBit 192 i = false ∨ Nat.testBit 127 i = false ∨ Nat.testBit 64 i = true := by
    by_cases h : i < 8
    · have : ∀ i, i < 8 → Nat.testBit 192 i = false ∨ Nat.testBit 127 i = false ∨ Nat.testBit 64 i = true := by decide
      exact this i h
    · left
      exact Nat.testBit_lt_two_pow (Nat.lt_of_lt_of_le (by decide : 192 < 2 ^ 8) (Nat.pow_le_pow_right (by decide) (by omega)))
  rcases this with h | h | h <;> rw [h] <;> simp
set_option maxRecDepth 100000 in
theorem clamp_same {l : List UInt8} (h : l.length = 32) (y : UInt8) : clampL ((l.set 0 (l.getD 0 0 ^^^ (y &&& 7))).set 31 (l.getD 31 0 ^^^ (y &&& 192))) = clampL l := by
  have e0 : (l.getD 0 0 ^^^ (y &&& 7)) &&& 248 = l.getD 0 0 &&& 248 := by
    apply UInt8.toNat_inj.1
    rw [UInt8.toNat_and, UInt8.toNat_and, UInt8.toNat_xor, UInt8.toNat_and]
    exact clamp_low _ _ (UInt8.toNat_lt _) (UInt8.toNat_lt _)
  have e1 : ((l.getD 31 0 ^^^ (y &&& 192)) &&& 127) ||| 64 = (l.getD 31 0 &&& 127) ||| 64 := by
    apply UInt8.toNat_inj.1
    rw [UInt8.toNat_or, UInt8.toNat_or, UInt8.toNat_and, UInt8.toNat_and, UInt8.toNat_xor, UInt8.toNat_and]
    exact clamp_high _ _ (UInt8.toNat_lt _) (UInt8.toNat_lt _)
  unfold clampL
  have g0 : ((l.set 0 (l.getD 0 0 ^^^ (y &&& 7))).set 31 (l.getD 31 0 ^^^ (y &&& 192))).getD 0 0 = l.getD 0 0 ^^^ (y &&& 7) := by
    rw [List.getD_eq_getElem?_getD, List.getElem?_set_ne (by decide), List.getElem?_set_self (by omega), Option.getD_some]
  have g1 : ((l.set 0 (l.getD 0 0 ^^^ (y &&& 7))).set 31 (l.getD 31 0 ^^^ (y &&& 192))).getD 31 0 = l.getD 31 0 ^^^ (y &&& 192) := by
    rw [List.getD_eq_getElem?_getD, List.getElem?_set_self (by rw [List.length_set]; omega), Option.getD_some]
  rw [g0, g1, e0, e1]
  refine List.ext_getElem (by simp) ?_
  intro i h1 h2
  simp only [List.getElem_set]
  by_cases h31 : 31 = i
  · simp [h31]
  · by_cases h00 : 0 = i
    · simp [h31, h00]
    · simp [h31, h00]

set_option maxRecDepth 100000 in
theorem mkeys_bad (k p : ByteArray) (y : Nat) (W : World) (h : ¬ (k.size = 32 ∧ p.size = 32)) : Calls Try.prog 5 #[.string k, .string p, .int .u8 (y : Int)] W fun e w' => e = .returned (.bool true) ∧ Below W.heap.size W w' := by
  have L1 := hid (fun w => malive_any w)
  go_enter Try.func5, Try.ntmps5
  obtain hh | hh : k.size ≠ 32 ∨ (k.size = 32 ∧ p.size ≠ 32) := by omega
  · have h1 : ((k.size : Int) != 32) = true := by rw [bne_iff_ne]; omega
    clear h hh
    go_wp2_with fail
    refine (L1.out _).mono ?_
    rintro e w1 ⟨rfl, hb1⟩
    go_wp2_with fail
    go_ret
    exact ⟨rfl, hb1⟩
  · have h1 : ((k.size : Int) != 32) = false := by rw [bne_eq_false_iff_eq]; omega
    have h2 : ((p.size : Int) != 32) = true := by rw [bne_iff_ne]; omega
    clear h hh
    go_wp2_with fail
    refine (L1.out _).mono ?_
    rintro e w1 ⟨rfl, hb1⟩
    go_wp2_with fail
    go_ret
    exact ⟨rfl, hb1⟩

set_option maxRecDepth 100000 in
set_option maxHeartbeats 2000000 in
theorem mkeys_core (k p : ByteArray) (lk lp : List UInt8) (a b x y z : UInt8) (n : Nat) (N : ByteArray) (S : ByteArray) (E : Int) (W : World) (hk : k.size = 32) (hp : p.size = 32) (hlk : k.data.toList = lk) (hlp : p.data.toList = lp)
    (ha : lk.getD 0 0 = a) (hb : lk.getD 31 0 = b) (hx : lp.getD 31 0 = x) (hz : x ^^^ 128 = z)
    (s1 : sharedS k p = S ∧ sharedE k p = E) (s2 : sharedS k ⟨(lp.set 31 z).toArray⟩ = S ∧ sharedE k ⟨(lp.set 31 z).toArray⟩ = E)
    (hn : bytesNat (lp.set 31 (z &&& 127)) % pP = n) (hN : (⟨(natBytes n 32).toArray⟩ : ByteArray) = N) (s3 : sharedS k N = S ∧ sharedE k N = E)
    (s4 : sharedS ⟨((lk.set 0 (a ^^^ (y &&& 7))).set 31 (b ^^^ (y &&& 192))).toArray⟩ p = S ∧ sharedE ⟨((lk.set 0 (a ^^^ (y &&& 7))).set 31 (b ^^^ (y &&& 192))).toArray⟩ p = E) :
    Calls Try.prog 5 #[.string k, .string p, .int .u8 (y.toNat : Int)] W fun e w' => e = .returned (.bool true) ∧ Below W.heap.size W w' := by
  have ll1 : lk.length = 32 := by rw [← hlk]; simpa using hk
  have ll2 : lp.length = 32 := by rw [← hlp]; simpa using hp
  have S1 := fun w => shared_any k p w
  rw [s1.1, s1.2] at S1
  have S1 := hid S1
  have S2 := fun w => shared_any k ⟨(lp.set 31 z).toArray⟩ w
  rw [s2.1, s2.2] at S2
  have S2 := hid S2
  have O1 := fun w => ref_Of ⟨(lp.set 31 (z &&& 127)).toArray⟩ w (by rw [set_size ll2]; decide)
  rw [show bytesNat (⟨(lp.set 31 (z &&& 127)).toArray⟩ : ByteArray).data.toList % pP = n from hn] at O1
  have O1 := hid O1
  have hn2 : n < pP := hn ▸ Nat.mod_lt _ (by decide)
  have B1 := hid (fun w => hN ▸ ref_Bytes n w (Nat.lt_trans hn2 pP_255))
  have S3 := fun w => shared_any k N w
  rw [s3.1, s3.2] at S3
  have S3 := hid S3
  have S4 := fun w => shared_any ⟨((lk.set 0 (a ^^^ (y &&& 7))).set 31 (b ^^^ (y &&& 192))).toArray⟩ p w
  rw [s4.1, s4.2] at S4
  have S4 := hid S4
  have L1 := hid (fun w => malive_any w)
  have HLK := hid hlk
  have HLP := hid hlp
  have HA := hid ha
  have HB := hid hb
  have HX := hid hx
  have HLL1 := hid ll1
  have HLL2 := hid ll2
  have hSS : (S.toList == S.toList) = true := beq_self_eq_true _
  have hEE : (E == E) = true := beq_self_eq_true _
  have h1 : ((k.size : Int) != 32) = false := by rw [bne_eq_false_iff_eq]; omega
  have h2 : ((p.size : Int) != 32) = false := by rw [bne_eq_false_iff_eq]; omega
  have x1 : bits .xor .u8 (x.toNat : Int) 128 = (z.toNat : Int) := by rw [← hz]; exact u8_xor x 128
  have x2 : bits .and .u8 (z.toNat : Int) 127 = ((z &&& 127).toNat : Int) := and127 z
  have x3 : bits .and .u8 (y.toNat : Int) 7 = ((y &&& 7).toNat : Int) := u8_and y 7
  have x4 : bits .and .u8 (y.toNat : Int) 192 = ((y &&& 192).toNat : Int) := u8_and y 192
  have x5 := u8_xor a (y &&& 7)
  have x6 := u8_xor b (y &&& 192)
  have X2 := hid x2
  have X3 := hid x3
  have X4 := hid x4
  have X5 := hid x5
  have X6 := hid x6
  clear x2 x3 x4 x5 x6
  have KK := hid hk
  have KP := hid hp
  clear hlk hlp ha hb hx hz s1 s2 s3 s4 hn hN hn2 ll1 ll2 hk hp
  go_enter Try.func5, Try.ntmps5
  go_wp2_with fail
  refine (S1.out _).mono ?_
  rintro e w1 ⟨rfl, hb1⟩
  have b1 := hid hb1
  clear hb1
  go_upto_region 5 with (fail)
  have hL := laid_bytes w1 p
  have hB := hid (below_to b1.out (bytesWorld_below w1 5 p))
  rw [HLP.out] at hL
  have hw1 := b1.out.size
  rw [KP.out]
  generalize Lib.bytesWorld w1 5 p = w2 at *
  generalize grownCap w1 32 0 5 = cap at *
  generalize w1.heap.size = M at *
  clear b1
  have hl2 := HLL2.out
  have c1 := hL.cell (j := 31) (by omega)
  have f1 := hL.free (j := 31) (by omega)
  rw [HX.out] at c1
  go_upto_region 6 with (fail)
  have LA := hid (hL.set 31 z)
  have BA := hid (hB.out.setCell (p := ⟨M, 31, none⟩) hw1 (.int .u8 (z.toNat : Int)))
  generalize hw3 : w2.setCell ⟨M, 31, none⟩ (.int .u8 (z.toNat : Int)) = w3 at *
  have hl3 : (lp.set 31 z).length = 32 := by simp [HLL2.out]
  have hconv := fun (cap : Nat) => oconv_string _ M 0 32 cap _ hl3 (fun j hj => by rw [Nat.zero_add]; exact LA.out.cell (by rw [hl3]; exact hj))
  clear hw3 c1 f1 hL hB x1
  go_wp2_with fail
  refine (S2.out _).mono ?_
  rintro e w4 ⟨rfl, hb4⟩
  simp only []
  have LB := hid (LA.out.keep hb4)
  have BB := hid (below_to BA.out hb4)
  clear hb4 LA BA hconv S2
  have hg : (lp.set 31 z).getD 31 0 = z := by rw [List.getD_eq_getElem?_getD, List.getElem?_set_self (by have := HLL2.out; omega), Option.getD_some]
  have c1 := LB.out.cell (j := 31) (by omega)
  have f1 := LB.out.free (j := 31) (by omega)
  rw [hg] at c1
  have LC := LB.out.set 31 (z &&& 127)
  rw [List.set_set] at LC
  have LC := hid LC
  have BC := hid (BB.out.setCell (p := ⟨M, 31, none⟩) hw1 (.int .u8 ((z &&& 127).toNat : Int)))
  clear hg LB BB
  go_upto_region 8 with (fail)
  rw [X2.out]
  generalize hw5 : w4.setCell ⟨M, 31, none⟩ (.int .u8 ((z &&& 127).toNat : Int)) = w5 at *
  have hl4 : (lp.set 31 (z &&& 127)).length = 32 := by simp [HLL2.out]
  have hconv := fun (cap : Nat) => oconv_string _ M 0 32 cap _ hl4 (fun j hj => by rw [Nat.zero_add]; exact LC.out.cell (by rw [hl4]; exact hj))
  clear hw5 c1 f1 X2 hl3
  go_wp2_with fail
  refine (O1.out _).mono ?_
  rintro e w6 ⟨rfl, hb6⟩
  simp only []
  have BD := hid (below_to BC.out hb6)
  clear hb6 LC BC hconv hl4
  go_wp2_with fail
  refine (B1.out _).mono ?_
  rintro e w7 ⟨rfl, hb7⟩
  simp only []
  have BE := hid (below_to BD.out hb7)
  clear hb7 BD
  go_wp2_with fail
  refine (S3.out _).mono ?_
  rintro e w8 ⟨rfl, hb8⟩
  simp only []
  have BF := hid (below_to BE.out hb8)
  clear hb8 BE S3 B1 O1
  go_upto_region 10 with (fail)
  have hL := laid_bytes w8 k
  have hB := hid (below_to BF.out (bytesWorld_below w8 5 k))
  rw [HLK.out] at hL
  have hw8 := BF.out.size
  rw [KK.out]
  generalize Lib.bytesWorld w8 5 k = w9 at *
  generalize grownCap w8 32 0 5 = cap2 at *
  generalize w8.heap.size = C at *
  clear BF
  have hl5 := HLL1.out
  have c0 := hL.cell (j := 0) (by omega)
  have f0 := hL.free (j := 0) (by omega)
  rw [HA.out] at c0
  have LG := hid (hL.set 0 (a ^^^ (y &&& 7)))
  have BG := hid (hB.out.setCell (p := ⟨C, 0, none⟩) hw8 (.int .u8 ((a ^^^ (y &&& 7)).toNat : Int)))
  go_upto_region 11 with (fail)
  rw [X3.out, X5.out]
  generalize hw10 : w9.setCell ⟨C, 0, none⟩ (.int .u8 ((a ^^^ (y &&& 7)).toNat : Int)) = w10 at *
  clear hw10 c0 f0 hL hB X3 X5
  have hl6 : (lk.set 0 (a ^^^ (y &&& 7))).length = 32 := by simp [HLL1.out]
  have hg : (lk.set 0 (a ^^^ (y &&& 7))).getD 31 0 = b := by rw [List.getD_eq_getElem?_getD, List.getElem?_set_ne (by decide), ← List.getD_eq_getElem?_getD, HB.out]
  have c1 := LG.out.cell (j := 31) (by omega)
  have f1 := LG.out.free (j := 31) (by omega)
  rw [hg] at c1
  have LH := hid (LG.out.set 31 (b ^^^ (y &&& 192)))
  have BH := hid (BG.out.setCell (p := ⟨C, 31, none⟩) hw8 (.int .u8 ((b ^^^ (y &&& 192)).toNat : Int)))
  clear hg LG BG
  go_upto_region 12 with (fail)
  rw [X4.out, X6.out]
  generalize hw11 : w10.setCell ⟨C, 31, none⟩ (.int .u8 ((b ^^^ (y &&& 192)).toNat : Int)) = w11 at *
  have hl7 : ((lk.set 0 (a ^^^ (y &&& 7))).set 31 (b ^^^ (y &&& 192))).length = 32 := by rw [List.length_set]; exact hl6
  have hconv := fun (cap : Nat) => oconv_string _ C 0 32 cap _ hl7 (fun j hj => by rw [Nat.zero_add]; exact LH.out.cell (by rw [hl7]; exact hj))
  clear hw11 c1 f1 X4 X6
  go_wp2_with fail
  refine (S4.out _).mono ?_
  rintro e w12 ⟨rfl, hb12⟩
  simp only []
  have BI := hid (below_to BH.out hb12)
  clear hb12 LH BH hconv hl7 hl6
  go_wp2_with fail
  refine (L1.out _).mono ?_
  rintro e w13 ⟨rfl, hb13⟩
  simp only []
  go_wp2_with fail
  go_ret
  exact ⟨rfl, below_to BI.out hb13⟩
set_option maxRecDepth 100000 in
theorem mkeys_any (k p : ByteArray) (y : Nat) (W : World) (hy : y < 256) : Calls Try.prog 5 #[.string k, .string p, .int .u8 (y : Int)] W fun e w' => e = .returned (.bool true) ∧ Below W.heap.size W w' := by
  by_cases h : k.size = 32 ∧ p.size = 32
  · obtain ⟨hk, hp⟩ := h
    have lk1 : k.data.toList.length = 32 := by simpa using hk
    have lp1 : p.data.toList.length = 32 := by simpa using hp
    have ey : y = (UInt8.ofNat y).toNat := (Nat.mod_eq_of_lt hy).symm
    have z7 : ((p.data.toList.getD 31 0) ^^^ 128).toNat % 128 = (p.data.toList.getD 31 0).toNat % 128 := by
      rw [UInt8.toNat_xor, show 128 = 2 ^ 7 from rfl, Nat.xor_mod_two_pow]
      show _ ^^^ (128 % 128) = _
      rw [Nat.mod_self, Nat.xor_zero]
    have d0 : dY p = bytesNat (p.data.toList.take 31) + (p.data.toList.getD 31 0).toNat % 128 * t248 := by
      rw [← dY_set hp, set31 _ lp1, top_nat _ lp1, u8_and127]
    have d1 : dY ⟨(p.data.toList.set 31 ((p.data.toList.getD 31 0) ^^^ 128)).toArray⟩ = dY p := by rw [dY_31 lp1, z7, d0]
    have d2 : bytesNat (p.data.toList.set 31 (((p.data.toList.getD 31 0) ^^^ 128) &&& 127)) = dY p := by rw [set31 _ lp1, top_nat _ lp1, u8_and127, z7, d0]
    have s2 := shared_same (k := k) (set_size lp1 31 _) hp (congrArg fp d1)
    have hlt : dY p % pP < t255 := Nat.lt_trans (Nat.mod_lt _ (by decide)) pP_255
    have d3 : dY (⟨(natBytes (dY p % pP) 32).toArray⟩ : ByteArray) = dY p % pP := by
      unfold dY
      show bytesNat (natBytes (dY p % pP) 32) % t255 = dY p % pP
      rw [bytesNat_natBytes, Nat.mod_eq_of_lt (Nat.lt_of_lt_of_le hlt (by decide)), Nat.mod_eq_of_lt hlt]
    have s3 := shared_same (k := k) (p := ⟨(natBytes (dY p % pP) 32).toArray⟩) (q := p) (by show (natBytes _ 32).toArray.size = 32; simp [natBytes_length]) hp (by rw [d3]; exact fp_mod _)
    have s4 := shared_clamp (k := ⟨((k.data.toList.set 0 (k.data.toList.getD 0 0 ^^^ (UInt8.ofNat y &&& 7))).set 31 (k.data.toList.getD 31 0 ^^^ (UInt8.ofNat y &&& 192))).toArray⟩) (c := k) (p := p) (by show Array.size (List.toArray _) = 32; simp [lk1]) hk (clamp_same lk1 _)
    rw [ey]
    exact mkeys_core k p _ _ _ _ _ (UInt8.ofNat y) _ (dY p % pP) _ _ _ W hk hp rfl rfl rfl rfl rfl rfl ⟨rfl, rfl⟩ s2 (by rw [d2]) rfl s3 s4
  · exact mkeys_bad k p y W h

end Go.Proofs.Ytceljjnohjnepaa

namespace Go.Proofs.Ytceljjnohjnepaa
open Go.RowKit Go.ChangeShapes Go.WideShapes Go.Deep

section
variable {H : Type} {enc : TypeId × Value → H} {P : Program} {w : World} {base : Nat} {spare : Nat → Bool} {held : Bool}
set_option maxRecDepth 100000 in
/-- The kit's own page on structs has this theorem for copying: a slice of structs, each field of one cell. -/
theorem open_slice_fields {t e : TypeId} {fs : Array Field} {fuel : Nat} {cs : List Value} {x : DataW H × List MemPlace} (ht : P.underlying t = some (.slice e)) (he : P.underlying e = some (.struct fs))
    (hone : oneCellFields P fs = true) (hC : P.cellsOf e = fs.size) (h : DataW.trod enc P w base spare held fuel t cs = some x) :
    (cs = [.slice none 0 0] ∧ x = (.nil, [])) ∨
    ∃ (a : Addr) (len cap m : Nat) (D : Nat → DataW H) (Pl : Nat → List MemPlace), cs = [.slice (some a) len cap] ∧ base ≤ a.block ∧ len ≤ cap ∧ cap ≤ maxLen ∧ m = (if spare a.block then cap else len) ∧
      x = (.slice ((List.range len).map D) ((List.range (m - len)).map fun j => D (len + j)), MemPlace.row a (m * fs.size) ++ (List.range m).flatMap Pl) ∧
      ∀ i, i < m → ∃ (ys : List (DataW H × List MemPlace)) (n : Nat), D i = .agg (ys.map (·.1)) ∧ Pl i = ys.flatMap (·.2) ∧ ys.length = fs.size ∧
        ∀ (j : Nat) (f : Field), fs[j]? = some f → ∃ (v : Value) (y : DataW H × List MemPlace), w.cell? (a.add (i * fs.size + j)) = some v ∧ ys[j]? = some y ∧ DataW.trod enc P w base spare held n f.type [v] = some y := by
  rcases open_slice ht h with h0 | ⟨a, len, cap, m, n, D, Pl, hcs, hb, hl, hm, hmm, hx, hi⟩
  · exact .inl h0
  · refine .inr ⟨a, len, cap, m, D, Pl, hcs, hb, hl, hm, hmm, by rw [hC] at hx; exact hx, fun i him => ?_⟩
    obtain ⟨cs', hc, ht'⟩ := hi i him
    rw [hC] at hc
    obtain ⟨ys, n', hn', hy, hlen, hyl, hf⟩ := DataW.trod_struct he ht'
    obtain ⟨_, hcl, hat⟩ := World.cells?_some hc
    simp only [Prod.mk.injEq] at hy
    refine ⟨ys, n', hy.1, hy.2, hyl, fun j f hj => ?_⟩
    obtain ⟨ho, hk⟩ := hone_of hone j f hj
    have hjl : j < fs.size := (Array.getElem?_eq_some_iff.1 hj).1
    have hcell := hat j hjl
    have hv : cs'[j]? = some (cs'[j]'(by omega)) := List.getElem?_eq_getElem (by omega)
    have h1 := hf j f hj
    rw [ho, hk] at h1
    have hone' : (cs'.drop j).take 1 = [cs'[j]'(by omega)] := by
      rw [List.drop_eq_getElem_cons (by omega)]
      rfl
    rw [hone'] at h1
    have hys : ys[j]? = some (ys[j]'(by omega)) := List.getElem?_eq_getElem (by omega)
    refine ⟨_, _, ?_, hys, h1.trans hys⟩
    rw [← Go.Deep.add_add, hcell, hv]

set_option maxRecDepth 100000 in
/-- A slice of structs that came in: its length, and the cells of its elements at a plain address. -/
theorem slice_fields_at {t e : TypeId} {fs : Array Field} {fuel : Nat} {a : Option Addr} {len cap : Nat} {x : DataW H × List MemPlace} (ht : P.underlying t = some (.slice e)) (he : P.underlying e = some (.struct fs))
    (hone : oneCellFields P fs = true) (hC : P.cellsOf e = fs.size) (hpos : 0 < fs.size) (h : DataW.trod enc P w base (fun _ => true) held fuel t [.slice a len cap] = some x) :
    len ≤ maxLen ∧ (len = 0 ∨ ∃ b off, a = some ⟨b, off, none⟩ ∧ b < w.heap.size ∧ ∀ i, i < len → ∃ n, ∀ (j : Nat) (f : Field), fs[j]? = some f →
      ∃ (v : Value) (y : DataW H × List MemPlace), w.cell? ⟨b, off + i * fs.size + j, none⟩ = some v ∧ DataW.trod enc P w base (fun _ => true) held n f.type [v] = some y) := by
  rcases open_slice_fields ht he hone hC h with ⟨hcs, _⟩ | ⟨a', l, c, m, D, Pl, hcs, _, hl, hm, hmm, _, hi⟩
  · simp only [List.cons.injEq, Value.slice.injEq, and_true] at hcs
    obtain ⟨rfl, rfl, rfl⟩ := hcs
    exact ⟨Nat.zero_le _, .inl rfl⟩
  · simp only [List.cons.injEq, Value.slice.injEq, and_true] at hcs
    obtain ⟨rfl, rfl, rfl⟩ := hcs
    refine ⟨by omega, ?_⟩
    by_cases h0 : len = 0
    · exact .inl h0
    · right
      have hmc : m = cap := by simpa using hmm
      obtain ⟨ys, n, _, _, _, hf⟩ := hi 0 (by omega)
      obtain ⟨v, y, hc, _, _⟩ := hf 0 fs[0] (by simp [hpos])
      obtain ⟨b, off, spot⟩ := a'
      have hspot : spot = none := by simpa [Addr.add] using World.cell?_spot hc
      subst hspot
      refine ⟨b, off, rfl, by simpa [add_plain] using World.block_lt_of_cell? w _ hc, fun i hil => ?_⟩
      obtain ⟨ys, n, _, _, _, hf⟩ := hi i (by omega)
      refine ⟨n, fun j f hj => ?_⟩
      obtain ⟨v, y, hc, _, ht'⟩ := hf j f hj
      rw [add_plain, ← Nat.add_assoc] at hc
      exact ⟨v, y, hc, ht'⟩
end

end Go.Proofs.Ytceljjnohjnepaa
