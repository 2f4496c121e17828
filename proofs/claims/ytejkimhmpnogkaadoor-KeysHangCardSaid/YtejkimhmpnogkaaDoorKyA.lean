/- The key schedule: a known run, reckoned. The walk of the key schedule's known run. -/
import Derived.Test.YtejkimhmpnogkaaDoorKyW
namespace Go.Proofs.YtejkimhmpnogkaaDoor
open Go Go.RowKit

namespace KY
def e1 : List UInt8 := [51, 173, 10, 28, 96, 126, 192, 59, 9, 230, 205, 152, 147, 104, 12, 226, 16, 173, 243, 0, 170, 31, 38, 96, 225, 178, 46, 16, 241, 112, 249, 42]
def e2 : List UInt8 := [111, 38, 21, 161, 8, 199, 2, 197, 103, 143, 84, 252, 157, 186, 182, 151, 22, 192, 118, 24, 156, 72, 37, 12, 235, 234, 195, 87, 108, 54, 17, 186]
def e3 : List UInt8 := [151, 83, 127, 96, 155, 115, 198, 197, 73, 113, 25, 201, 148, 174, 215, 63, 177, 112, 132, 192, 208, 14, 166, 170, 9, 123, 171, 156, 109, 57, 104, 249]
def e4 : List UInt8 := [49, 77, 189, 89, 173, 131, 67, 216, 144, 68, 104, 19, 45, 243, 171, 251, 89, 69, 120, 159, 210, 244, 97, 48, 81, 218, 146, 253, 47, 135, 155, 26]
def e5 : List UInt8 := [98, 149, 83, 248, 87, 240, 46, 145, 42, 173, 82, 216, 21, 143, 45, 168, 122, 108, 62, 20, 144, 213, 172, 84, 173, 16, 153, 121, 168, 245, 142, 31]
theorem early_is : early = e1 := by decide +kernel
end KY
theorem ey_is : EY = ⟨KY.e1.toArray⟩ := congrArg (fun l : List UInt8 => (⟨l.toArray⟩ : ByteArray)) KY.early_is
theorem ey32 : EY.size = 32 := rfl
theorem ey4 : (EY.extract 0 4).toList = (⟨#[51, 173, 10, 28]⟩ : ByteArray).toList := by rw [ey_is]; decide +kernel
theorem sume_is : sume = ⟨([227, 176, 196, 66, 152, 252, 28, 20, 154, 251, 244, 200, 153, 111, 185, 36, 39, 174, 65, 228, 100, 155, 147, 76, 164, 149, 153, 27, 120, 82, 184, 85] : List UInt8).toArray⟩ := congrArg (fun l : List UInt8 => (⟨l.toArray⟩ : ByteArray)) SM.sum_nil
theorem lab_is (s l c : List UInt8) (n : Nat) (x : List UInt8) (h1 : l.length ≤ 249) (h2 : c.length ≤ 255) (hn : n ≤ 8160) (h : HK.expand s (besideL l c n) n = x) : lab ⟨s.toArray⟩ ⟨l.toArray⟩ ⟨c.toArray⟩ n = ⟨x.toArray⟩ := by
  unfold lab LS XS
  simp only []
  rw [if_neg (by omega), if_neg (by omega), Int.toNat_natCast, h]
theorem d_is : lab EY dv sume 32 = ⟨KY.e2.toArray⟩ := by
  rw [ey_is, sume_is]
  exact lab_is KY.e1 [100, 101, 114, 105, 118, 101, 100] [227, 176, 196, 66, 152, 252, 28, 20, 154, 251, 244, 200, 153, 111, 185, 36, 39, 174, 65, 228, 100, 155, 147, 76, 164, 149, 153, 27, 120, 82, 184, 85] 32 KY.e2 (by decide) (by decide) (by decide) (by decide +kernel)
theorem b_is : beh EY Z = ⟨KY.e3.toArray⟩ := by
  unfold beh
  rw [d_is]
  exact congrArg (fun l : List UInt8 => (⟨l.toArray⟩ : ByteArray)) (show SM.tag KY.e2 KY.Z32 = KY.e3 by decide +kernel)
theorem c_is : lab (beh EY Z) tc Z 32 = ⟨KY.e4.toArray⟩ := by
  rw [b_is]
  exact lab_is KY.e3 [99, 32, 104, 115, 32, 116, 114, 97, 102, 102, 105, 99] KY.Z32 32 KY.e4 (by decide) (by decide) (by decide) (by decide +kernel)
theorem s_is : lab (beh EY Z) ts Z 32 = ⟨KY.e5.toArray⟩ := by
  rw [b_is]
  exact lab_is KY.e3 [115, 32, 104, 115, 32, 116, 114, 97, 102, 102, 105, 99] KY.Z32 32 KY.e5 (by decide) (by decide) (by decide) (by decide +kernel)
theorem cs_ne : (lab (beh EY Z) tc Z 32).toList ≠ (lab (beh EY Z) ts Z 32).toList := by
  rw [c_is, s_is]
  decide +kernel
theorem c_size : (lab (beh EY Z) tc Z 32).size = 32 := by rw [c_is]; rfl

end Go.Proofs.YtejkimhmpnogkaaDoor

namespace Go.Proofs.YtejkimhmpnogkaaDoor
open Go Go.RowKit

theorem hs_yes : HSv Z Z = sec EY (beh EY Z) hs0 (lab (beh EY Z) tc Z 32) (lab (beh EY Z) ts Z 32) hs0 hs0 := by unfold HSv; rw [if_pos ⟨Z_size, Z_size⟩]
theorem hs_yes0 : HSe Z Z = 0 := by unfold HSe; rw [if_pos ⟨Z_size, Z_size⟩]
theorem hs_no : HSv ⟨#[115, 104, 111, 114, 116]⟩ Z = sec hs0 hs0 hs0 hs0 hs0 hs0 hs0 := by unfold HSv; rw [if_neg (by intro h; exact absurd h.1 (by decide))]
theorem hs_no2 : HSe ⟨#[115, 104, 111, 114, 116]⟩ Z = 2 := by unfold HSe; rw [if_neg (by intro h; exact absurd h.1 (by decide))]

set_option maxHeartbeats 1000000 in
theorem kalive_any (W : World) (hT : Tab W) : Calls Tryd.prog 31 #[] W fun e w' => e = .returned (.bool true) ∧ Below W.heap.size W w' := by
  have HT := hid hT
  have hm := made32 W
  have hc := conv32 W
  generalize brow (List.replicate 32 0) = R at *
  have B1 := hid (below_new (w := W) (.cells R 5))
  have T1 := hid (HT.out.keep B1.out)
  have h2 := handshake_any Z Z (W.alloc (.cells R 5)) T1.out
  rw [hs_yes, hs_yes0] at h2
  have hne := cs_ne
  have hsz := c_size
  obtain ⟨A, hA⟩ : ∃ A, lab (beh EY Z) tc Z 32 = A := ⟨_, rfl⟩
  obtain ⟨B, hB⟩ : ∃ B, lab (beh EY Z) ts Z 32 = B := ⟨_, rfl⟩
  rw [hA, hB] at h2 hne
  rw [hA] at hsz
  have e4 := ey4
  have e32 := ey32
  clear hT hA hB
  generalize beh EY Z = b at *
  have H2 := hid h2
  clear h2
  unfold sec at H2
  go_enter Tryd.func31, Tryd.ntmps31
  go_wp2_with fail
  refine H2.out.mono ?_
  rintro e w2 ⟨rfl, hb2⟩
  have B2 := hid (below_to B1.out hb2)
  clear hb2 H2 B1 T1 hm hc
  go_wp2_with fail
  have g3 := alloc_at w2 (.cells #[.string EY, .string b, .string hs0, .string A, .string B, .string hs0, .string hs0] 47)
  have B3 : Hid (Below W.heap.size W (w2.alloc (.cells #[.string EY, .string b, .string hs0, .string A, .string B, .string hs0, .string hs0] 47))) := hid (below_to B2.out (below_new _))
  obtain ⟨n, hn⟩ : ∃ n, w2.heap.size = n := ⟨_, rfl⟩
  generalize w2.alloc (.cells #[.string EY, .string b, .string hs0, .string A, .string B, .string hs0, .string hs0] 47) = w3 at *
  rw [hn] at g3 ⊢
  have T3 := hid (HT.out.keep B3.out)
  have h4 := handshake_any ⟨#[115, 104, 111, 114, 116]⟩ Z w3 T3.out
  rw [hs_no, hs_no2] at h4
  unfold sec at h4
  refine h4.mono ?_
  rintro e w4 ⟨rfl, hb4⟩
  have g4 := keepB hb4 g3
  have B4 := hid (below_to B3.out hb4)
  clear h4 hb4 g3 B3 T3 hn
  go_wp2_with fail
  have g5 := keepB (below_new (w := w4) (.cells #[.string hs0, .string hs0, .string hs0, .string hs0, .string hs0, .string hs0, .string hs0] 47)) g4
  have B5 : Hid (Below W.heap.size W (w4.alloc (.cells #[.string hs0, .string hs0, .string hs0, .string hs0, .string hs0, .string hs0, .string hs0] 47))) := hid (below_to B4.out (below_new _))
  generalize w4.alloc (.cells #[.string hs0, .string hs0, .string hs0, .string hs0, .string hs0, .string hs0, .string hs0] 47) = w5 at *
  refine (proof_true Z w5 Z_size).mono ?_
  rintro e w6 ⟨⟨t, rfl, ht⟩, hb6⟩
  have g6 := keepB hb6 g5
  have B6 := hid (below_to B5.out hb6)
  have T6 := hid (HT.out.keep B6.out)
  clear hb6 g5 g4 B5 B4
  go_wp2_with fail
  refine (early_any w6 T6.out).mono ?_
  rintro e w7 ⟨rfl, hb7⟩
  have g7 := keepB hb7 g6
  have B7 := hid (below_to B6.out hb7)
  clear hb7 g6 B6 T6
  have c3 : w7.cell? ⟨n, 3, none⟩ = some (.string A) := cell_at g7 3
  have c4 : w7.cell? ⟨n, 4, none⟩ = some (.string B) := cell_at g7 4
  clear g7
  go_wp2_with fail
  go_ret
  exact ⟨by rw [beq_eq_false_iff_ne.2 hne]; rfl, B7.out⟩

end Go.Proofs.YtejkimhmpnogkaaDoor
