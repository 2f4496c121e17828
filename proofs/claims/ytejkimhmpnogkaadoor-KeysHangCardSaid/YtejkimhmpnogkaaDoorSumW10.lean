/- The walks of Tag. -/
import Derived.Test.YtejkimhmpnogkaaDoorSumW9
namespace Go.Proofs.YtejkimhmpnogkaaDoor
open Go.RowKit

/-- A key's bytes, so far turned. -/
def half (l : List UInt8) (c : UInt8) (k : Nat) : List UInt8 := (l.take k).map (c ^^^ ·) ++ List.replicate (64 - k) c
theorem half_len {l : List UInt8} (c : UInt8) {k : Nat} (hk : k ≤ l.length) (h : k ≤ 64) : (half l c k).length = 64 := by
  simp [half]; omega
theorem half_at {l : List UInt8} (c : UInt8) {k : Nat} (hk : k ≤ l.length) (h : k < 64) : (half l c k).getD k 0 = c := by
  unfold half
  rw [List.getD_eq_getElem?_getD, List.getElem?_append_right (by simp; omega)]
  have h1 : ((l.take k).map (c ^^^ ·)).length = k := by simp; omega
  rw [h1, Nat.sub_self, List.getElem?_replicate, if_pos (by omega)]
  rfl
theorem half_step {l : List UInt8} (c : UInt8) {k : Nat} (hk : k < l.length) (h : k < 64) : (half l c k).set k (c ^^^ l.getD k 0) = half l c (k + 1) := by
  unfold half
  have h1 : ((l.take k).map (c ^^^ ·)).length = k := by simp; omega
  rw [List.set_append_right _ _ (by omega), h1, Nat.sub_self, show 64 - k = (64 - (k + 1)) + 1 by omega, List.replicate_succ, List.set_cons_zero, List.take_succ_eq_append_getElem hk, List.map_append, List.append_assoc]
  simp [hk]
theorem xor_u8 (a b : UInt8) : bits .xor .u8 (a.toNat : Int) (b.toNat : Int) = ((a ^^^ b).toNat : Int) := by
  rw [u8_xor_nat _ _ a.toNat_lt b.toNat_lt, UInt8.toNat_xor]

set_option maxRecDepth 100000 in
set_option maxHeartbeats 2000000 in
theorem pad_any (c : UInt8) (kb : Nat) (key : ByteArray) (W : World) (hk : key.size ≤ 64) (hc : W.cell? ⟨kb, 0, none⟩ = some (.string key)) :
    Calls Tryd.prog 40 #[.int .u8 (c.toNat : Int), .pointer (some ⟨kb, 0, none⟩)] W fun e w' => e = .returned (.string ⟨(half key.data.toList c key.size).toArray⟩) ∧ Below W.heap.size W w' := by
  have hkb := World.block_lt_of_cell? W _ hc
  have hl : key.data.toList.length = key.size := by simp
  have HL := hid hl
  clear hl
  go_enter Tryd.func40, Tryd.ntmps40
  go_wp2_with fail
  have f0 := alloc_at W (.cells #[.int .u8 (c.toNat : Int)] 5)
  have b0 := below_new (w := W) (.cells #[.int .u8 (c.toNat : Int)] 5)
  have hr := repeat_any c W.heap.size 0 1 _ (Nat.le_refl _) (cell_at f0 0)
  refine hr.mono ?_
  clear hr
  rintro e w1 ⟨rfl, hb1, hbl⟩
  have HB := hid hb1
  have BL := hid (below_to b0 hbl)
  have hN : W.heap.size < (W.alloc (.cells #[.int .u8 (c.toNat : Int)] 5)).heap.size := by simp
  obtain ⟨N, hNN⟩ : ∃ N, (W.alloc (.cells #[.int .u8 (c.toNat : Int)] 5)).heap.size = N := ⟨_, rfl⟩
  rw [hNN] at HB hN ⊢
  have ck := (BL.out.cell (p := ⟨kb, 0, none⟩) hkb).trans hc
  have hz : (List.replicate 64 c) = half key.data.toList c 0 := by simp [half]
  rw [hz] at HB
  clear hb1 hbl f0 b0 hNN hc hz
  go_wp2_with fail
  go_loopw [11] (fun i wr => ∃ k : Nat, k ≤ key.size ∧ i = .int .i64 (k : Int) ∧ Begins wr N (half key.data.toList c k) ∧ Below W.heap.size W wr) (fun i _ => (key.size - intOf i).toNat)
  case atStart => exact ⟨0, by omega, rfl, HB.out, BL.out⟩
  case round =>
    obtain ⟨k, hk2, rfl, hbg, hb⟩ := hrel
    have HBG := hid hbg
    have HBB := hid hb
    by_cases hlt : k < key.size
    · have hd : decide ((k : Int) < (key.size : Int)) = true := decide_eq_true (by omega)
      have hk64 : k < 64 := by omega
      have hkl : k < key.data.toList.length := by rw [HL.out]; exact hlt
      have hln := half_len c (l := key.data.toList) (k := k) (by omega) (by omega)
      have cN := hbg.cell (j := k) (by rw [hln]; exact hk64)
      rw [half_at c (by omega) hk64] at cN
      have fN := hbg.free
      have ck2 := (hb.cell (p := ⟨kb, 0, none⟩) hkb).trans (show W.cell? ⟨kb, 0, none⟩ = some (.string key) from by
        have := (BL.out.cell (p := ⟨kb, 0, none⟩) hkb)
        rw [← this]; exact ck)
      have hst := half_step c hkl hk64
      have hgd : key[k]'hlt = key.data.toList.getD k 0 := by
        rw [List.getD_eq_getElem?_getD, List.getElem?_eq_getElem hkl]; simp; rfl
      obtain ⟨x, hx⟩ : ∃ x, key.data.toList.getD k 0 = x := ⟨_, rfl⟩
      rw [hx] at hst hgd
      have HST := hid hst
      have HGD := hid hgd
      have HLN := hid hln
      have hi0 : (0 : Int) ≤ (k : Int) := by omega
      have hi1 : (k : Int) < 64 := by omega
      have hi2 : (k : Int) < (key.size : Int) := by omega
      have hxor := xor_u8 c x
      clear hbg hb hst hgd hx hln ck
      go_wp2_with fail
      refine still_tail 9 (by kernel_rfl) (by kernel_rfl) ?_
      simp only [List.take_succ_cons, List.take_zero, List.drop_succ_cons, List.drop_zero]
      repeat (first | (refine wpStill_step (fun K hK => ?_); go_simp; refine hK _ ?_; clear hK K; try go_ints))
      refine wpStill_nil ?_
      go_wp2_with fail
      rw [HGD.out, hxor]
      refine ⟨⟨k + 1, by omega, by go_num, ?_, ((HBB.out.setCell (show W.heap.size ≤ N by omega) _).drew)⟩, by simp [intOf]; omega⟩
      rw [← HST.out]
      exact (HBG.out.set (by rw [HLN.out]; exact hk64) (c ^^^ x))
    · have hd : decide ((k : Int) < (key.size : Int)) = false := decide_eq_false (by omega)
      have hk8 : k = key.size := by omega
      have hcv := conv_string wr N 0 64 64 (half key.data.toList c k) (half_len c (by rw [HL.out]; omega) (by omega)) (fun j hj => by rw [Nat.zero_add]; exact hbg.cell (by rw [half_len c (by rw [HL.out]; omega) (by omega)]; exact hj))
      rw [hk8] at hcv
      have HK8 := hid hk8
      clear hbg hb hk8
      go_wp2_with fail
      go_ret
      exact ⟨rfl, HBB.out⟩

theorem half_all (l : List UInt8) (c : UInt8) : half l c l.length = l.map (c ^^^ ·) ++ List.replicate (64 - l.length) c := by
  unfold half; rw [List.take_length]
theorem pad_lit (c : UInt8) (k : Int) (hk : (c.toNat : Int) = k) (kb : Nat) (key : ByteArray) (kl : List UInt8) (hkl : key.data.toList = SM.key kl) (W : World) (hc : W.cell? ⟨kb, 0, none⟩ = some (.string key)) :
    Calls Tryd.prog 40 #[.int .u8 k, .pointer (some ⟨kb, 0, none⟩)] W fun e w' => e = .returned (.string ⟨(SM.padded kl c).toArray⟩) ∧ Below W.heap.size W w' := by
  subst hk
  have hl : key.data.toList.length = key.size := by simp
  have h := pad_any c kb key W (by rw [← hl, hkl]; exact SM.key_le kl) hc
  rw [← hl, half_all, hkl] at h
  exact h

set_option maxRecDepth 100000 in
set_option maxHeartbeats 2000000 in
theorem tag_any (key s : ByteArray) (W : World) (hT : Tab W) (hk : key.size ≤ 68719476736) (hs : s.size ≤ 68719476736) :
    Calls Tryd.prog 17 #[.string key, .string s] W fun e w' => e = .returned (.string ⟨(SM.tag key.data.toList s.data.toList).toArray⟩) ∧ Below W.heap.size W w' := by
  have HT := hid hT
  have hmf : ∀ (fn : Fn) (first cap : Array Value) (w : World), (Instr.makeFunc fn first cap).run Tryd.prog w = .ok (.func fn first cap) w := fun _ _ _ _ => rfl
  have hl : key.data.toList.length = key.size := by simp
  have HL := hid hl
  clear hT hl
  obtain ⟨kb, hkb⟩ : ∃ kb, W.heap.size = kb := ⟨_, rfl⟩
  have f0 := alloc_at' hkb.symm (.cells #[.string key] 9)
  have b0 := below_new (w := W) (.cells #[.string key] 9)
  have T0 := hid (HT.out.keep b0)
  have hW0 := HT.out.lt
  by_cases hc : 64 < key.size
  · have hd : decide ((key.size : Int) > 64) = true := decide_eq_true (by omega)
    have hof := hid (of_any key (W.alloc (.cells #[.string key] 9)) T0.out (by omega))
    have F0 := hid f0
    have B0 := hid b0
    have HKB := hid hkb
    clear f0 b0 hkb
    go_enter Tryd.func17, Tryd.ntmps17
    go_wp2_with fail
    refine hof.out.mono ?_
    rintro e w1 ⟨rfl, hb⟩
    have F1 := keepB hb F0.out
    have B1 := hid (below_to B0.out hb)
    have T1 := hid (T0.out.keep hb)
    have c1 : w1.cell? ⟨W.heap.size, 0, none⟩ = some (.string key) := by rw [HKB.out]; exact cell_at F1 0
    have fz : ∀ j, w1.frozen? ⟨W.heap.size, j, none⟩ = false := fun j => by rw [HKB.out]; exact free_at F1 j
    obtain ⟨k0, hk0⟩ : ∃ k0 : ByteArray, (⟨(SM.sum key.data.toList).toArray⟩ : ByteArray) = k0 := ⟨_, rfl⟩
    have hkl : k0.data.toList = SM.key key.data.toList := by rw [← hk0]; unfold SM.key; rw [HL.out, if_pos hc]
    rw [hk0]
    have HKL := hid hkl
    clear hb F1 hkl hk0 hof B0 F0 T0 HT
    go_wp2_with fail
    obtain ⟨w2, hw2⟩ : ∃ w2, w1.setCell ⟨W.heap.size, 0, none⟩ (.string k0) = w2 := ⟨_, rfl⟩
    have h12 : Below W.heap.size w1 w2 := by rw [← hw2]; exact (Below.refl W.heap.size w1).setCell (Nat.le_refl _) _
    have c2 : w2.cell? ⟨W.heap.size, 0, none⟩ = some (.string k0) := by rw [← hw2]; exact World.cell?_setCell_same' _ _ _ (by rw [c1]; rfl)
    have B2 := hid (B1.out.trans h12)
    have T2 := hid (T1.out.belowB h12 hW0)
    rw [hw2]
    clear hw2 h12 c1 fz B1 T1
    refine (pad_lit 0x5c 92 rfl W.heap.size k0 key.data.toList HKL.out w2 c2).mono ?_
    rintro e w3 ⟨rfl, hb3⟩
    have B3 := hid (below_to B2.out hb3)
    have T3 := hid (T2.out.keep hb3)
    have c3 : w3.cell? ⟨W.heap.size, 0, none⟩ = some (.string k0) := (hb3.cell (p := ⟨W.heap.size, 0, none⟩) (World.block_lt_of_cell? w2 _ c2)).trans c2
    obtain ⟨P1, hP1⟩ : ∃ P1 : ByteArray, (⟨(SM.padded key.data.toList 0x5c).toArray⟩ : ByteArray) = P1 := ⟨_, rfl⟩
    have hP1l : P1.data.toList = SM.padded key.data.toList 0x5c := by rw [← hP1]
    have hP1s : P1.size = 64 := by rw [← hP1]; exact SM.padded_length _ _
    rw [hP1]
    have HP1 := hid hP1l
    clear hb3 B2 T2 c2 hP1 hP1l
    go_wp2_with fail
    refine (pad_lit 0x36 54 rfl W.heap.size k0 key.data.toList HKL.out w3 c3).mono ?_
    rintro e w4 ⟨rfl, hb4⟩
    have B4 := hid (below_to B3.out hb4)
    have T4 := hid (T3.out.keep hb4)
    obtain ⟨P2, hP2⟩ : ∃ P2 : ByteArray, (⟨(SM.padded key.data.toList 0x36).toArray⟩ : ByteArray) = P2 := ⟨_, rfl⟩
    have hP2l : P2.data.toList = SM.padded key.data.toList 0x36 := by rw [← hP2]
    have hP2s : P2.size = 64 := by rw [← hP2]; exact SM.padded_length _ _
    rw [hP2]
    have HP2 := hid hP2l
    clear hb4 B3 T3 c3 hP2 hP2l
    go_wp2_with fail
    have hsz5 : (P2 ++ s).size = P2.size + s.size := ByteArray.size_append
    have hof5 := of_any (P2 ++ s) w4 T4.out (by omega)
    refine hof5.mono ?_
    clear hof5 hsz5
    rintro e w5 ⟨rfl, hb5⟩
    have B5 := hid (below_to B4.out hb5)
    have T5 := hid (T4.out.keep hb5)
    obtain ⟨D, hD⟩ : ∃ D : ByteArray, (⟨(SM.sum (P2 ++ s).data.toList).toArray⟩ : ByteArray) = D := ⟨_, rfl⟩
    have hDl : D.data.toList = SM.sum (SM.padded key.data.toList 0x36 ++ s.data.toList) := by rw [← hD]; simp [HP2.out]
    have hDs : D.size = 32 := by rw [← hD]; rfl
    rw [hD]
    have HD := hid hDl
    clear hb5 B4 T4 hD hDl
    go_wp2_with fail
    have hsz6 : (P1 ++ D).size = P1.size + D.size := ByteArray.size_append
    have hof6 := of_any (P1 ++ D) w5 T5.out (by omega)
    refine hof6.mono ?_
    clear hof6 hsz6
    rintro e w6 ⟨rfl, hb6⟩
    have B6 := hid (below_to B5.out hb6)
    clear hb6
    go_wp2_with fail
    go_ret
    refine ⟨?_, B6.out⟩
    rw [HP1.out, HD.out]
    rfl
  · have hd : decide ((key.size : Int) > 64) = false := decide_eq_false (by omega)
    have hkl : key.data.toList = SM.key key.data.toList := by unfold SM.key; rw [HL.out, if_neg hc]
    have HKL := hid hkl
    have c1 : (W.alloc (.cells #[.string key] 9)).cell? ⟨W.heap.size, 0, none⟩ = some (.string key) := by rw [hkb]; exact cell_at f0 0
    clear hkl hkb f0 b0
    go_enter Tryd.func17, Tryd.ntmps17
    go_wp2_with fail
    obtain ⟨w2, hw2⟩ : ∃ w2, W.alloc (.cells #[.string key] 9) = w2 := ⟨_, rfl⟩
    have B2 := hid (show Below W.heap.size W w2 by rw [← hw2]; exact below_new _)
    rw [hw2] at T0 c1 ⊢
    have T2 := T0
    have c2 := c1
    clear hw2 T0 c1 HT
    refine (pad_lit 0x5c 92 rfl W.heap.size key key.data.toList HKL.out w2 c2).mono ?_
    rintro e w3 ⟨rfl, hb3⟩
    have B3 := hid (below_to B2.out hb3)
    have T3 := hid (T2.out.keep hb3)
    have c3 : w3.cell? ⟨W.heap.size, 0, none⟩ = some (.string key) := (hb3.cell (p := ⟨W.heap.size, 0, none⟩) (World.block_lt_of_cell? w2 _ c2)).trans c2
    obtain ⟨P1, hP1⟩ : ∃ P1 : ByteArray, (⟨(SM.padded key.data.toList 0x5c).toArray⟩ : ByteArray) = P1 := ⟨_, rfl⟩
    have hP1l : P1.data.toList = SM.padded key.data.toList 0x5c := by rw [← hP1]
    have hP1s : P1.size = 64 := by rw [← hP1]; exact SM.padded_length _ _
    rw [hP1]
    have HP1 := hid hP1l
    clear hb3 B2 T2 c2 hP1 hP1l
    go_wp2_with fail
    refine (pad_lit 0x36 54 rfl W.heap.size key key.data.toList HKL.out w3 c3).mono ?_
    rintro e w4 ⟨rfl, hb4⟩
    have B4 := hid (below_to B3.out hb4)
    have T4 := hid (T3.out.keep hb4)
    obtain ⟨P2, hP2⟩ : ∃ P2 : ByteArray, (⟨(SM.padded key.data.toList 0x36).toArray⟩ : ByteArray) = P2 := ⟨_, rfl⟩
    have hP2l : P2.data.toList = SM.padded key.data.toList 0x36 := by rw [← hP2]
    have hP2s : P2.size = 64 := by rw [← hP2]; exact SM.padded_length _ _
    rw [hP2]
    have HP2 := hid hP2l
    clear hb4 B3 T3 c3 hP2 hP2l
    go_wp2_with fail
    have hsz5 : (P2 ++ s).size = P2.size + s.size := ByteArray.size_append
    have hof5 := of_any (P2 ++ s) w4 T4.out (by omega)
    refine hof5.mono ?_
    clear hof5 hsz5
    rintro e w5 ⟨rfl, hb5⟩
    have B5 := hid (below_to B4.out hb5)
    have T5 := hid (T4.out.keep hb5)
    obtain ⟨D, hD⟩ : ∃ D : ByteArray, (⟨(SM.sum (P2 ++ s).data.toList).toArray⟩ : ByteArray) = D := ⟨_, rfl⟩
    have hDl : D.data.toList = SM.sum (SM.padded key.data.toList 0x36 ++ s.data.toList) := by rw [← hD]; simp [HP2.out]
    have hDs : D.size = 32 := by rw [← hD]; rfl
    rw [hD]
    have HD := hid hDl
    clear hb5 B4 T4 hD hDl
    go_wp2_with fail
    have hsz6 : (P1 ++ D).size = P1.size + D.size := ByteArray.size_append
    have hof6 := of_any (P1 ++ D) w5 T5.out (by omega)
    refine hof6.mono ?_
    clear hof6 hsz6
    rintro e w6 ⟨rfl, hb6⟩
    have B6 := hid (below_to B5.out hb6)
    clear hb6
    go_wp2_with fail
    go_ret
    refine ⟨?_, B6.out⟩
    rw [HP1.out, HD.out]
    rfl

end Go.Proofs.YtejkimhmpnogkaaDoor
