/- The walks of the laws on digests: small, alive. -/
import Derived.Test.YtejkimhmpnogkaaDoorSumR2
namespace Go.Proofs.YtejkimhmpnogkaaDoor
open Go.RowKit

/-- What texts weigh. -/
def wsum (ss : List ByteArray) : Nat := (ss.map fun s => 8 + s.size).sum
theorem wsum_snoc (ss : List ByteArray) (s : ByteArray) : wsum (ss ++ [s]) = wsum ss + (8 + s.size) := by simp [wsum]
theorem wsum_take (ss : List ByteArray) (k : Nat) (h : k < ss.length) : wsum (ss.take (k + 1)) = wsum (ss.take k) + (8 + (ss.getD k ByteArray.empty).size) := by
  rw [List.take_succ_eq_append_getElem h, wsum_snoc]; simp [h]
theorem wsum_le (ss : List ByteArray) (k : Nat) : wsum (ss.take k) ≤ wsum ss := by
  have : wsum ss = wsum (ss.take k) + wsum (ss.drop k) := by unfold wsum; rw [← List.sum_append, ← List.map_append, List.take_append_drop]
  omega

set_option maxHeartbeats 1000000 in
theorem small_any (ss : List ByteArray) (a : Option Addr) (cap : Nat) (W : World) (hm : ss.length ≤ 9223372036854775807) (hsz : ∀ j, j < ss.length → (ss.getD j ByteArray.empty).size ≤ 140737488351232)
    (ha : ss.length = 0 ∨ ∃ b off, a = some ⟨b, off, none⟩ ∧ ∀ j, j < ss.length → W.cell? ⟨b, off + j, none⟩ = some (.string (ss.getD j ByteArray.empty))) :
    Calls Tryd.prog 13 #[.slice a ss.length cap] W fun e w' => e = .returned (.bool (decide (wsum ss ≤ 2048))) ∧ W = w' := by
  have HA := hid ha
  have HZ := hid hsz
  clear ha hsz
  obtain ⟨len, hlen⟩ : ∃ len, ss.length = len := ⟨_, rfl⟩
  rw [hlen] at hm HA HZ ⊢
  have HL := hid hlen
  clear hlen
  go_enter Tryd.func13, Tryd.ntmps13
  go_wp2_with fail
  go_loop [3, 4] (fun n i => ∃ k : Nat, k ≤ len ∧ i = .int .i64 (k : Int) ∧ n = .int .i64 ((wsum (ss.take k) : Nat) : Int) ∧ wsum (ss.take k) ≤ 140737488355000) (fun _ i => (len - intOf i).toNat)
  case atStart => exact ⟨0, Nat.zero_le _, rfl, rfl, by simp [wsum]⟩
  case round =>
    obtain ⟨k, hk, rfl, rfl, hn⟩ := hrel
    have hle := wsum_le ss k
    by_cases hlt : k < len
    · have hd : decide ((k : Int) < (len : Int)) = true := decide_eq_true (by omega)
      have hst := wsum_take ss k (by rw [HL.out]; exact hlt)
      by_cases hn2 : wsum (ss.take k) ≤ 2048
      · have hd2 : decide (((wsum (ss.take k) : Nat) : Int) ≤ 2048) = true := decide_eq_true (by omega)
        obtain ⟨b, off, rfl, hc⟩ := HA.out.resolve_left (by omega)
        have ck := hc k hlt
        have hsk := HZ.out k hlt
        have hk0 : 0 ≤ (k : Int) := by omega
        have hk1 : (k : Int) < (len : Int) := by omega
        generalize ss.getD k ByteArray.empty = sk at *
        generalize wsum (ss.take k) = n at *
        have HST := hid hst
        clear hst hc hle
        go_wp2_with fail
        go_round
        case rel => exact ⟨k + 1, by omega, by go_num, by rw [HST.out]; go_num, by rw [HST.out]; omega⟩
        case measure => simp [intOf]; omega
      · have hd2 : decide (((wsum (ss.take k) : Nat) : Int) ≤ 2048) = false := decide_eq_false (by omega)
        have hfin : decide (wsum ss ≤ 2048) = false := decide_eq_false (by omega)
        have HF := hid hfin
        clear hst hle hfin
        generalize wsum (ss.take k) = n at *
        go_wp2_with fail
        go_ret
        exact ⟨by rw [HF.out]; rfl, rfl⟩
    · have hd : decide ((k : Int) < (len : Int)) = false := decide_eq_false (by omega)
      have hkl : k = len := by omega
      have hta : ss.take k = ss := by rw [hkl, ← HL.out, List.take_length]
      rw [hta]
      by_cases hn2 : wsum ss ≤ 2048
      · have hd2 : decide (((wsum ss : Nat) : Int) ≤ 2048) = true := decide_eq_true (by omega)
        have hfin : decide (wsum ss ≤ 2048) = true := decide_eq_true hn2
        have HF : Hid (Value.bool (decide (wsum ss ≤ 2048)) = Value.bool (decide (wsum ss ≤ 2048)) ∧ decide (wsum ss ≤ 2048) = (decide (wsum ss ≤ 2048))) := hid ⟨rfl, rfl⟩
        clear HF hle hta hn
        obtain ⟨n, hn⟩ : ∃ n, wsum ss = n := ⟨_, rfl⟩
        rw [hn] at hn2 hd2 hfin ⊢
        have HN := hid hn
        have HF := hid hfin
        clear hn hfin
        go_wp2_with fail
        go_ret
        exact ⟨by rw [HN.out, HF.out]; rfl, rfl⟩
      · have hd2 : decide (((wsum ss : Nat) : Int) ≤ 2048) = false := decide_eq_false (by omega)
        have hfin : decide (wsum ss ≤ 2048) = false := decide_eq_false hn2
        have HF : Hid (Value.bool (decide (wsum ss ≤ 2048)) = Value.bool (decide (wsum ss ≤ 2048)) ∧ decide (wsum ss ≤ 2048) = (decide (wsum ss ≤ 2048))) := hid ⟨rfl, rfl⟩
        clear HF hle hta hn
        obtain ⟨n, hn⟩ : ∃ n, wsum ss = n := ⟨_, rfl⟩
        rw [hn] at hn2 hd2 hfin ⊢
        have HN := hid hn
        have HF := hid hfin
        clear hn hfin
        go_wp2_with fail
        go_ret
        exact ⟨by rw [HN.out, HF.out]; rfl, rfl⟩

theorem sum_ab : SM.sum [97, 98] = [251, 142, 32, 252, 46, 76, 63, 36, 140, 96, 195, 155, 214, 82, 243, 193, 52, 114, 152, 187, 151, 123, 139, 77, 89, 3, 184, 80, 85, 98, 6, 3] := by decide +kernel

set_option maxHeartbeats 2000000 in
theorem alive_any (W : World) (hT : Tab W) : Calls Tryd.prog 14 #[] W fun e w' => e = .returned (.bool true) ∧ Below W.heap.size W w' := by
  have HT := hid hT
  have hW0 := hT.lt
  clear hT
  go_enter Tryd.func14, Tryd.ntmps14
  go_wp2_with fail
  have h1 := of_any ⟨#[]⟩ W HT.out (by decide)
  rw [show (⟨#[]⟩ : ByteArray).data.toList = [] from rfl, SM.sum_nil] at h1
  refine h1.mono ?_
  rintro e w1 ⟨rfl, hb1⟩
  have T1 := hid (HT.out.keep hb1)
  have B1 := hid hb1
  clear h1 hb1 HT
  go_wp2_with fail
  have h2 := of_any ⟨#[97, 98, 99]⟩ w1 T1.out (by decide)
  rw [show (⟨#[97, 98, 99]⟩ : ByteArray).data.toList = [97, 98, 99] from rfl, SM.sum_abc] at h2
  refine h2.mono ?_
  rintro e w2 ⟨rfl, hb2⟩
  have T2 := hid (T1.out.keep hb2)
  have B2 := hid (below_to B1.out hb2)
  clear h2 hb2 T1 B1
  go_wp2_with fail
  refine (new_any w2).mono ?_
  rintro e w3 ⟨rfl, hn, hb3⟩
  have T3 := hid (T2.out.keep hb3)
  have B3 := hid (below_to B2.out hb3)
  obtain ⟨H, hH⟩ : ∃ H, w2.heap.size = H := ⟨_, rfl⟩
  rw [hH] at hn hb3 ⊢
  have hH0 : 0 < H := by rw [← hH]; exact T2.out.lt
  have hWH : W.heap.size ≤ H := by rw [← hH]; exact B2.out.size
  have h4 := add_any ⟨#[97, 98]⟩ hn hH0 (by have := hb3.size; omega) T3.out (by decide)
  have H4 := hid h4
  clear h4 hn hb3 hH T2 B2
  go_wp2_with fail
  refine H4.out.mono ?_
  rintro e w4 ⟨rfl, hn, hb4⟩
  have T4 := hid (T3.out.belowB hb4 hH0)
  have B4 := hid (B3.out.trans (hb4.mono hWH))
  have e4 : ([] : List UInt8) ++ (⟨#[97, 98]⟩ : ByteArray).data.toList = [97, 98] := rfl
  rw [e4] at hn
  have N4 := hid hn
  have h5 := copy_any hn (by decide)
  have H5 := hid h5
  clear h5 hn hb4 e4 H4 T3 B3
  go_wp2_with fail
  refine H5.out.mono ?_
  rintro e w5 ⟨rfl, hn, hb5⟩
  have T5 := hid (T4.out.keep hb5)
  have B5 := hid (below_to B4.out hb5)
  obtain ⟨C, hC⟩ : ∃ C, w4.heap.size = C := ⟨_, rfl⟩
  rw [hC] at hn hb5 ⊢
  have hC0 : 0 < C := by rw [← hC]; exact T4.out.lt
  have hWC : W.heap.size ≤ C := by rw [← hC]; exact B4.out.size
  have h6 := add_any ⟨#[99]⟩ hn hC0 (by have := hb5.size; omega) T5.out (by decide)
  have H6 := hid h6
  have HB5 := hid hb5
  have HCC := hid hC
  clear h6 hn hC hb5 H5
  have hx1 : ((⟨#[227, 176, 196, 66, 152, 252, 28, 20, 154, 251, 244, 200, 153, 111, 185, 36, 39, 174, 65, 228, 100, 155, 147, 76, 164, 149, 153, 27, 120, 82, 184, 85]⟩ : ByteArray).extract 0 4).toList = [227, 176, 196, 66] := by decide +kernel
  have hx2 : ((⟨#[186, 120, 22, 191, 143, 1, 207, 234, 65, 65, 64, 222, 93, 174, 34, 35, 176, 3, 97, 163, 150, 23, 122, 156, 180, 16, 255, 97, 242, 0, 21, 173]⟩ : ByteArray).extract 0 4).toList = [186, 120, 22, 191] := by decide +kernel
  go_wp2_with fail
  refine H6.out.mono ?_
  rintro e w6 ⟨rfl, hn, hb6⟩
  have T6 := hid (T5.out.belowB hb6 hC0)
  have B6 := hid (B5.out.trans (hb6.mono hWC))
  have e6 : ([97, 98] : List UInt8) ++ (⟨#[99]⟩ : ByteArray).data.toList = [97, 98, 99] := rfl
  rw [e6] at hn
  have B46 := hid (HB5.out.trans hb6)
  have h7 := sum_any hn hC0 T6.out (by decide)
  rw [SM.sum_abc] at h7
  have H7 := hid h7
  clear h7 hn hb6 e6 H6 T5 B5 HB5
  go_wp2_with fail
  refine H7.out.mono ?_
  rintro e w7 ⟨rfl, hb7⟩
  have T7 := hid (T6.out.keep hb7)
  have B7 := hid (below_to B6.out hb7)
  have N7 := N4.out.keep (by rw [HCC.out]; exact B46.out.trans (hb7.mono (by have := B46.out.size; rw [HCC.out] at this; exact this)))
  have h8 := sum_any N7 hH0 T7.out (by decide)
  rw [sum_ab] at h8
  have H8 := hid h8
  clear h8 N7 hb7 H7 T6 B6 B46
  go_wp2_with fail
  refine H8.out.mono ?_
  rintro e w8 ⟨rfl, hb8⟩
  have T8 := hid (T7.out.keep hb8)
  have B8 := hid (below_to B7.out hb8)
  have h9 := tag_any ⟨#[107]⟩ ⟨#[115]⟩ w8 T8.out (by decide) (by decide)
  have hts : (⟨(SM.tag [107] [115]).toArray⟩ : ByteArray).size = 32 := rfl
  have H9 := hid h9
  clear h9 hb8 H8 T7 B7
  go_wp2_with fail
  refine H9.out.mono ?_
  rintro e w9 ⟨rfl, hb9⟩
  go_wp2_with fail
  go_ret
  exact ⟨rfl, below_to B8.out hb9⟩

end Go.Proofs.YtejkimhmpnogkaaDoor
