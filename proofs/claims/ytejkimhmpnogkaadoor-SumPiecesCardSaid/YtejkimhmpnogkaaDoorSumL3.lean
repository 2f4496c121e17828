/- The walk of the law SumPieces. -/
import Derived.Test.YtejkimhmpnogkaaDoorSumL2
namespace Go.Proofs.YtejkimhmpnogkaaDoor
open Go.RowKit

def cat (ss : List ByteArray) : List UInt8 := (ss.map fun s => s.data.toList).flatten
theorem cat_snoc (ss : List ByteArray) (s : ByteArray) : cat (ss ++ [s]) = cat ss ++ s.data.toList := by simp [cat]
theorem cat_take_succ (ss : List ByteArray) (k : Nat) (h : k < ss.length) : cat (ss.take (k + 1)) = cat (ss.take k) ++ (ss.getD k ByteArray.empty).data.toList := by
  rw [List.take_succ_eq_append_getElem h, cat_snoc]; simp [h]
theorem cat_le (ss : List ByteArray) : (cat ss).length ≤ wsum ss := by
  induction ss with
  | nil => simp [cat, wsum]
  | cons s ss ih =>
    have e : cat (s :: ss) = s.data.toList ++ cat ss := by simp [cat]
    have e2 : wsum (s :: ss) = 8 + s.size + wsum ss := by simp [wsum]
    have e3 : s.data.toList.length = s.size := by simp
    rw [e, e2, List.length_append, e3]; omega
def catB (ss : List ByteArray) : ByteArray := ⟨(cat ss).toArray⟩
theorem catB_data (ss : List ByteArray) : (catB ss).data.toList = cat ss := by simp [catB]
theorem catB_size (ss : List ByteArray) : (catB ss).size = (cat ss).length := by
  show (cat ss).toArray.size = _
  simp
theorem catB_succ (ss : List ByteArray) (k : Nat) (h : k < ss.length) : catB (ss.take k) ++ ss.getD k ByteArray.empty = catB (ss.take (k + 1)) := by
  apply ByteArray.ext
  rw [ByteArray.data_append]
  apply Array.ext'
  rw [Array.toList_append, catB_data, catB_data, cat_take_succ ss k h]
theorem HashAt.mono {w : World} {B B' hb : Nat} {A : List UInt8} (h : HashAt w B hb A) (hB : B' ≤ B) : HashAt w B' hb A := by
  obtain ⟨v, o, r, h1, h2, h3, h4, h5⟩ := h
  exact ⟨v, o, r, h1, h2, h3, Nat.le_trans hB h4, fun g hg => Nat.le_trans hB (h5 g hg)⟩

set_option maxRecDepth 100000 in
set_option maxHeartbeats 4000000 in
theorem pieces_near (ss : List ByteArray) (copies : Int) (hcp : 0 ≤ copies ∧ copies < 18446744073709551616) (other : ByteArray) (a : Option Addr) (cap : Nat) (W : World) (hT : Tab W) (hm : ss.length ≤ 9223372036854775807) (hsz : ∀ j, j < ss.length → (ss.getD j ByteArray.empty).size ≤ 140737488351232) (ho : other.size ≤ 140737488351232)
    (ha : ss.length = 0 ∨ ∃ b off, a = some ⟨b, off, none⟩ ∧ b < W.heap.size ∧ ∀ j, j < ss.length → W.cell? ⟨b, off + j, none⟩ = some (.string (ss.getD j ByteArray.empty))) (hs : wsum ss ≤ 2048) (hs2 : 8 + other.size ≤ 2048) :
    Calls Tryd.prog 5 #[.slice a ss.length cap, .int .u64 copies, .string other] W fun e w' => e = .returned (.bool true) ∧ Below W.heap.size W w' := by
  have hW0 := hT.lt
  have hsm := small_any ss a cap W hm hsz (by
    rcases ha with h | ⟨b, off, h1, _, h2⟩
    · exact .inl h
    · exact .inr ⟨b, off, h1, h2⟩)
  rw [decide_eq_true hs] at hsm
  have hso := small_one other W.heap.size _ ho (cell_at (alloc_at W (.cells #[.string other] 9)) 0)
  rw [decide_eq_true hs2] at hso
  have T1 := hid (hT.keep (below_new (w := W) (.cells #[.string other] 9)))
  have B1 := hid (below_new (w := W) (.cells #[.string other] 9))
  have HA := hid ha
  have HZ := hid hsz
  have HS := hid hs
  have HSM := hid hsm
  have HSO := hid hso
  obtain ⟨len, hlen⟩ : ∃ len, ss.length = len := ⟨_, rfl⟩
  rw [hlen] at hm HA HZ HSM ⊢
  have HL := hid hlen
  clear hT ha hsz hsm hso hlen hs
  go_enter Tryd.func5, Tryd.ntmps5
  go_wp2_with fail
  refine HSM.out.mono ?_
  rintro e w' ⟨rfl, rfl⟩
  go_wp2_with fail
  refine HSO.out.mono ?_
  rintro e w' ⟨rfl, rfl⟩
  go_wp2_with fail
  refine (new_any _).mono ?_
  rintro e w3 ⟨rfl, hn, hb3⟩
  have T3 := hid (T1.out.keep hb3)
  have B3 := hid (below_to B1.out hb3)
  have hn3 := hid (hn.mono (B' := W.heap.size) B1.out.size)
  obtain ⟨H0, hH0⟩ : ∃ H0, (W.alloc (.cells #[.string other] 9)).heap.size = H0 := ⟨_, rfl⟩
  rw [hH0] at hn3 ⊢
  clear hn hb3 hH0 T1 B1 HSM HSO
  go_wp2_with fail
  go_loopw [7, 8, 9] (fun h s i wr => ∃ k hb : Nat, k ≤ len ∧ i = .int .i64 (k : Int) ∧ h = .pointer (some ⟨hb, 0, none⟩) ∧ s = .string (catB (ss.take k)) ∧ HashAt wr W.heap.size hb (cat (ss.take k)) ∧ Tab wr ∧ Below W.heap.size W wr) (fun _ _ i _ => (len - intOf i).toNat)
  case atStart => exact ⟨0, H0, Nat.zero_le _, rfl, rfl, rfl, hn3.out, T3.out, B3.out⟩
  case round =>
    clear hn3 T3 B3
    obtain ⟨k, hb, hk, rfl, rfl, rfl, rh, rt, rb⟩ := hrel
    have RH := hid rh
    have RT := hid rt
    have RB := hid rb
    have hcl := cat_le (ss.take k)
    have hwl := wsum_le ss k
    have hcs := catB_size (ss.take k)
    have hcd := catB_data (ss.take k)
    have hA : (cat (ss.take k)).length ≤ 2048 := by have := HS.out; omega
    have HRS := hid (Nat.le_trans rb.size (Nat.le_refl _))
    by_cases hlt : k < len
    · have hd : decide ((k : Int) < (len : Int)) = true := decide_eq_true (by omega)
      obtain ⟨b, off, rfl, hbl, hc⟩ := HA.out.resolve_left (by omega)
      have HC := hid (hc k hlt)
      have HBL := hid hbl
      have hsk := HZ.out k hlt
      have hk0 : 0 ≤ (k : Int) := by omega
      have hk1 : (k : Int) < (len : Int) := by omega
      have hsuc := catB_succ ss k (by rw [HL.out]; exact hlt)
      have hsucc := cat_take_succ ss k (by rw [HL.out]; exact hlt)
      have hcl2 := cat_le (ss.take (k + 1))
      have hwl2 := wsum_le ss (k + 1)
      have hA2 : (cat (ss.take (k + 1))).length ≤ 2048 := by have := HS.out; omega
      have hsl : (ss.getD k ByteArray.empty).data.toList.length = (ss.getD k ByteArray.empty).size := by simp
      have hs3 : (ss.getD k ByteArray.empty).size ≤ 2048 := by rw [hsucc, List.length_append, hsl] at hA2; omega
      generalize hsg : ss.getD k ByteArray.empty = sk at *
      generalize hAg : cat (ss.take k) = A at *
      generalize hBg : catB (ss.take k) = ab at *
      have HSUC := hid hsuc
      have HSUCC := hid hsucc
      have HCD := hid hcd
      clear rh rt rb hc hbl hsg hAg hBg hsuc hsucc hcl hcl2 hwl hwl2 hcd hsl
      have hss : ab.size ≤ 9223372036854775807 := by rw [hcs]; omega
      have hss2 : sk.size ≤ 9223372036854775807 := by omega
      have hss3 : other.size ≤ 9223372036854775807 := by omega
      have hk64 : k % 64 < 64 := by omega
      cases hbit : (bits BinOp.and IntKind.u64 (copies / 2 ^ (k % 64)) 1 == 1)
      · have ck := (RB.out.cell (p := ⟨b, off + k, none⟩) HBL.out).trans HC.out
        have XH := RH
        have XT := RT
        have XB := RB
        clear RH RT RB
        have hadd := add_any sk XH.out hW0 XB.out.size XT.out (by omega)
        have HADD := hid hadd
        clear hadd
        go_wp2_with fail
        refine HADD.out.mono ?_
        rintro e w9 ⟨rfl, hn9, hb9⟩
        have N9 := hid hn9
        have B9 := hid (XB.out.trans hb9)
        have T9 := hid (XT.out.belowB hb9 hW0)
        have ck9 := (B9.out.cell (p := ⟨b, off + k, none⟩) HBL.out).trans HC.out
        clear hn9 hb9 HADD XH XT XB
        go_wp2_with fail
        rw [HSUC.out]
        exact ⟨⟨k + 1, hb, by omega, by go_num, rfl, rfl, by rw [HSUCC.out]; exact N9.out, T9.out, B9.out⟩, by simp [intOf]; omega⟩
      · have hcp := copy_any RH.out (by omega)
        have HCP := hid hcp
        clear hcp
        go_wp2_with fail
        refine HCP.out.mono ?_
        rintro e w4 ⟨rfl, hn4, hb4⟩
        obtain ⟨C, hC⟩ : ∃ C, wr.heap.size = C := ⟨_, rfl⟩
        rw [hC] at hn4 hb4 ⊢
        have hWC : W.heap.size ≤ C := by rw [← hC]; exact RB.out.size
        have hC0 : 0 < C := by omega
        have T4 := hid (RT.out.belowB hb4 hC0)
        have hCs : C ≤ w4.heap.size := by have := hb4.size; omega
        have ha5 := add_any other hn4 hC0 hCs T4.out (by omega)
        have HA5 := hid ha5
        have B4 := hid hb4
        have HCC := hid hC
        clear hn4 hb4 ha5 HCP hC
        go_wp2_with fail
        refine HA5.out.mono ?_
        rintro e w5 ⟨rfl, hn5, hb5⟩
        have T5 := hid (T4.out.belowB hb5 hC0)
        have B5 := hid (B4.out.trans hb5)
        have hCs5 : C ≤ w5.heap.size := by have := hb5.size; omega
        have hs6 := sum_any hn5 hC0 T5.out (by have h9 : other.data.toList.length = other.size := by (simp)
                                               rw [List.length_append, h9]; omega)
        have HS6 := hid hs6
        clear hn5 hb5 hs6 HA5 T4 B4
        go_wp2_with fail
        refine HS6.out.mono ?_
        rintro e w6 ⟨rfl, hb6⟩
        have T6 := hid (T5.out.keep hb6)
        have B6 := hid (B5.out.trans (hb6.mono hCs5))
        have hcd2 : (ab ++ other).data.toList = A ++ other.data.toList := by rw [ByteArray.data_append, Array.toList_append, HCD.out]
        have hsz2 : (ab ++ other).size = ab.size + other.size := ByteArray.size_append
        have hr7 := ROf_any (ab ++ other) w6 (by omega)
        rw [hcd2] at hr7
        obtain ⟨D, hD⟩ : ∃ D : ByteArray, (⟨(SM.sum (A ++ other.data.toList)).toArray⟩ : ByteArray) = D := ⟨_, rfl⟩
        rw [hD] at hr7 ⊢
        have HR7 := hid hr7
        clear hr7 hcd2 hb6 HS6 T5 B5 hD hsz2
        go_wp2_with fail
        refine HR7.out.mono ?_
        rintro e w7 ⟨rfl, hb7⟩
        have hCs6 : C ≤ w6.heap.size := by have h9 := B6.out.size; rw [HCC.out] at h9; exact h9
        have B7 := hid (B6.out.trans (hb7.mono hCs6))
        have T7 := hid (T6.out.keep hb7)
        have H7 := hid (RH.out.keep (by rw [HCC.out]; exact B7.out))
        have XB := hid (RB.out.trans (B7.out.mono hWC))
        have ck := (XB.out.cell (p := ⟨b, off + k, none⟩) HBL.out).trans HC.out
        clear hb7 HR7 T6 B6 B7 RH RT RB
        by_cases hpar : k % 2 = 0
        · have hp : (((k : Int) % 2) == 0) = true := beq_iff_eq.2 (by omega)
          have hcp8 := copy_any H7.out (by omega)
          have HCP8 := hid hcp8
          clear hcp8
          go_wp2_with fail
          refine HCP8.out.mono ?_
          rintro e w8 ⟨rfl, hn8, hb8⟩
          have XH := hid (hn8.mono (B' := W.heap.size) XB.out.size)
          have XT := hid (T7.out.keep hb8)
          have XB2 := hid (below_to XB.out hb8)
          obtain ⟨hb2, hhb2⟩ : ∃ hb2, w7.heap.size = hb2 := ⟨_, rfl⟩
          rw [hhb2] at XH ⊢
          clear hn8 hb8 hhb2 HCP8 H7 T7 XB ck
          have XB := XB2
          have ck := (XB.out.cell (p := ⟨b, off + k, none⟩) HBL.out).trans HC.out
          clear XB2
          have hadd := add_any sk XH.out hW0 XB.out.size XT.out (by omega)
          have HADD := hid hadd
          clear hadd
          go_wp2_with fail
          refine HADD.out.mono ?_
          rintro e w9 ⟨rfl, hn9, hb9⟩
          have N9 := hid hn9
          have B9 := hid (XB.out.trans hb9)
          have T9 := hid (XT.out.belowB hb9 hW0)
          have ck9 := (B9.out.cell (p := ⟨b, off + k, none⟩) HBL.out).trans HC.out
          clear hn9 hb9 HADD XH XT XB
          go_wp2_with fail
          rw [HSUC.out]
          exact ⟨⟨k + 1, hb2, by omega, by go_num, rfl, rfl, by rw [HSUCC.out]; exact N9.out, T9.out, B9.out⟩, by simp [intOf]; omega⟩
        · have hp : (((k : Int) % 2) == 0) = false := beq_eq_false_iff_ne.2 (by omega)
          have XH := H7
          have XT := T7
          clear H7 T7
          have hadd := add_any sk XH.out hW0 XB.out.size XT.out (by omega)
          have HADD := hid hadd
          clear hadd
          go_wp2_with fail
          refine HADD.out.mono ?_
          rintro e w9 ⟨rfl, hn9, hb9⟩
          have N9 := hid hn9
          have B9 := hid (XB.out.trans hb9)
          have T9 := hid (XT.out.belowB hb9 hW0)
          have ck9 := (B9.out.cell (p := ⟨b, off + k, none⟩) HBL.out).trans HC.out
          clear hn9 hb9 HADD XH XT XB
          go_wp2_with fail
          rw [HSUC.out]
          exact ⟨⟨k + 1, hb, by omega, by go_num, rfl, rfl, by rw [HSUCC.out]; exact N9.out, T9.out, B9.out⟩, by simp [intOf]; omega⟩
    · have hd : decide ((k : Int) < (len : Int)) = false := decide_eq_false (by omega)
      have hkl : k = len := by omega
      have hta : ss.take k = ss := by rw [hkl, ← HL.out, List.take_length]
      rw [hta] at RH hcs hcd hA ⊢
      generalize hAg : cat ss = A at *
      generalize hBg : catB ss = ab at *
      have HCD := hid hcd
      have hss : ab.size ≤ 137438953472 := by rw [hcs]; omega
      have h1 := hid (sum_any RH.out hW0 RT.out (by omega))
      clear rh rt rb hAg hBg hcl hwl hcd hta
      go_wp2_with fail
      refine h1.out.mono ?_
      rintro e w4 ⟨rfl, hb4⟩
      have H4 := hid (RH.out.keep hb4)
      have T4 := hid (RT.out.keep hb4)
      have B4 := hid (below_to RB.out hb4)
      have h5 := ROf_any ab w4 (by omega)
      rw [HCD.out] at h5
      obtain ⟨D, hD⟩ : ∃ D : ByteArray, (⟨(SM.sum A).toArray⟩ : ByteArray) = D := ⟨_, rfl⟩
      rw [hD] at h5 ⊢
      have HD := hid hD
      have H5 := hid h5
      clear hb4 h5 hD h1 RH RT RB
      go_wp2_with fail
      refine H5.out.mono ?_
      rintro e w5 ⟨rfl, hb5⟩
      have H6 := hid (H4.out.keep hb5)
      have T6 := hid (T4.out.keep hb5)
      have B6 := hid (below_to B4.out hb5)
      have h7 := sum_any H6.out hW0 T6.out (by omega)
      rw [HD.out] at h7
      have H7 := hid h7
      clear hb5 h7 H5 H4 T4 B4
      go_wp2_with fail
      refine H7.out.mono ?_
      rintro e w6 ⟨rfl, hb6⟩
      have T7 := hid (T6.out.keep hb6)
      have B7 := hid (below_to B6.out hb6)
      have h8 := of_any ab w6 T7.out (by omega)
      rw [HCD.out, HD.out] at h8
      have H8 := hid h8
      clear hb6 h8 H7 H6 T6 B6
      go_wp2_with fail
      refine H8.out.mono ?_
      rintro e w7 ⟨rfl, hb7⟩
      have T8 := hid (T7.out.keep hb7)
      have B8 := hid (below_to B7.out hb7)
      clear hb7 H8 T7 B7
      go_wp2_with fail
      refine (alive_any _ T8.out).mono ?_
      rintro e w8 ⟨rfl, hb8⟩
      go_wp2_with fail
      go_ret
      exact ⟨rfl, below_to B8.out hb8⟩

end Go.Proofs.YtejkimhmpnogkaaDoor
