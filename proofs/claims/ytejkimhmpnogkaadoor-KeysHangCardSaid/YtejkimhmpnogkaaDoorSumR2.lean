/- The walk of the document's tag. -/
import Derived.Test.YtejkimhmpnogkaaDoorSumR1
import Derived.Test.YtejkimhmpnogkaaDoorSumW10
namespace Go.Proofs.YtejkimhmpnogkaaDoor
open Go.RowKit

/-- Bytes, of which the first k were turned by c. -/
def xorl (l : List UInt8) (c : UInt8) (k : Nat) : List UInt8 := (l.take k).map (c ^^^ ·) ++ l.drop k
theorem xorl_len (l : List UInt8) (c : UInt8) (k : Nat) : (xorl l c k).length = l.length := by simp [xorl]; omega
theorem xorl_at {l : List UInt8} (c : UInt8) {k : Nat} (hk : k < l.length) : (xorl l c k).getD k 0 = l.getD k 0 := by
  unfold xorl
  have h1 : ((l.take k).map (c ^^^ ·)).length = k := by simp; omega
  rw [List.getD_eq_getElem?_getD, List.getElem?_append_right (by omega), h1, Nat.sub_self, List.getElem?_drop]
  simp
theorem xorl_step {l : List UInt8} (c : UInt8) {k : Nat} (hk : k < l.length) : (xorl l c k).set k (c ^^^ l.getD k 0) = xorl l c (k + 1) := by
  unfold xorl
  have h1 : ((l.take k).map (c ^^^ ·)).length = k := by simp; omega
  rw [List.set_append_right _ _ (by omega), h1, Nat.sub_self, List.drop_eq_getElem_cons hk, List.set_cons_zero, List.take_succ_eq_append_getElem hk, List.map_append, List.append_assoc]
  simp [hk]
theorem xorl_all (l : List UInt8) (c : UInt8) : xorl l c l.length = l.map (c ^^^ ·) := by simp [xorl]
theorem padded_map (k : List UInt8) (c : UInt8) : (SM.key k ++ List.replicate (64 - (SM.key k).length) 0).map (c ^^^ ·) = SM.padded k c := by
  unfold SM.padded
  rw [List.map_append, List.map_replicate]
  simp

theorem Laid.other {w : World} {b : Nat} {l : List UInt8} (h : Laid w b l) {p : Addr} (hp : p.block ≠ b) (v : Value) : Laid (w.setCell p v) b l := by
  obtain ⟨C, T, n, h1, h2, h3⟩ := h.ex
  exact ⟨⟨C, T, n, at_setCell_other h1 hp.symm v, h2, h3⟩⟩
set_option maxRecDepth 100000 in
set_option maxHeartbeats 2000000 in
theorem RTag_any (key s : ByteArray) (W : World) (hk : key.size ≤ 68719476736) (hs : s.size ≤ 68719476736) :
    Calls Tryd.prog 18 #[.string key, .string s] W fun e w' => e = .returned (.string ⟨(SM.tag key.data.toList s.data.toList).toArray⟩) ∧ Below W.heap.size W w' := by
  have hl : key.data.toList.length = key.size := by simp
  have HL := hid hl
  clear hl
  by_cases hc : 64 < key.size
  · have hd : decide ((key.size : Int) > 64) = true := decide_eq_true (by omega)
    have hof := hid (ROf_any key W (by omega))
    go_enter Tryd.func18, Tryd.ntmps18
    go_wp2_with fail
    refine hof.out.mono ?_
    rintro e w2 ⟨rfl, hb⟩
    have B2 := hid hb
    obtain ⟨k0, hk0⟩ : ∃ k0 : ByteArray, (⟨(SM.sum key.data.toList).toArray⟩ : ByteArray) = k0 := ⟨_, rfl⟩
    have hkl : k0.data.toList = SM.key key.data.toList := by rw [← hk0]; unfold SM.key; rw [HL.out, if_pos hc]
    rw [hk0]
    have HKL := hid hkl
    clear hb hkl hk0 hof
    have hK : ∃ K : ByteArray, k0 ++ (⟨Array.replicate (64 - k0.size) 0⟩ : ByteArray) = K := ⟨_, rfl⟩
    obtain ⟨K, hK⟩ := hK
    have hks : k0.size ≤ 64 := by
      have h1 : k0.data.toList.length = k0.size := by simp
      rw [← h1, HKL.out]; exact SM.key_le _
    have hKl : K.data.toList = SM.key key.data.toList ++ List.replicate (64 - (SM.key key.data.toList).length) 0 := by
      have h1 : k0.data.toList.length = k0.size := by simp
      rw [← hK, ← HKL.out, h1]; simp
    have hKs : K.size = 64 := by
      have h1 : K.data.toList.length = K.size := by simp
      have h2 := SM.key_le key.data.toList
      rw [← h1, hKl, List.length_append, List.length_replicate]; omega
    have hsub : (64 : Int) - (k0.size : Int) = ((64 - k0.size : Nat) : Int) := by omega
    have hmk := fun w => make_nn (64 - k0.size) (by omega) w
    have hcv := fun w => conv_zeros (64 - k0.size) w
    have HKK := hid hKl
    have hKlen : K.data.toList.length = 64 := by rw [← hKs]; simp
    have hX : (w2.alloc (.cells (brow (List.replicate (64 - k0.size) 0)) 5)).heap.size = w2.heap.size + 1 := by simp
    have laA := laid_bytes (w2.alloc (.cells (brow (List.replicate (64 - k0.size) 0)) 5)) K
    have bA := bytesWorld_below (w2.alloc (.cells (brow (List.replicate (64 - k0.size) 0)) 5)) 5 K
    have bX := below_new (w := w2) (.cells (brow (List.replicate (64 - k0.size) 0)) 5)
    rw [hX] at laA
    have hcA : ∀ cp, (convert 57 9 (.slice (some ⟨w2.heap.size + 1, 0, none⟩) 64 cp)).run Tryd.prog (Lib.bytesWorld (w2.alloc (.cells (brow (List.replicate (64 - k0.size) 0)) 5)) 5 K) = .ok (.string K) (Lib.bytesWorld (w2.alloc (.cells (brow (List.replicate (64 - k0.size) 0)) 5)) 5 K) := fun cp => by
      rw [conv_string _ (w2.heap.size + 1) 0 64 cp K.data.toList hKlen (fun j hj => by rw [Nat.zero_add]; exact laA.cell (by rw [hKlen]; exact hj))]
    have hzA : (Lib.bytesWorld (w2.alloc (.cells (brow (List.replicate (64 - k0.size) 0)) 5)) 5 K).heap.size = w2.heap.size + 1 + 1 := by rw [Lib.bytesWorld_size, hX]
    have laB := laid_bytes (Lib.bytesWorld (w2.alloc (.cells (brow (List.replicate (64 - k0.size) 0)) 5)) 5 K) K
    have bB := bytesWorld_below (Lib.bytesWorld (w2.alloc (.cells (brow (List.replicate (64 - k0.size) 0)) 5)) 5 K) 5 K
    rw [hzA] at laB
    have laA2 : Laid (Lib.bytesWorld (Lib.bytesWorld (w2.alloc (.cells (brow (List.replicate (64 - k0.size) 0)) 5)) 5 K) 5 K) (w2.heap.size + 1) K.data.toList := by
      obtain ⟨C, T, n, h1, h2, h3⟩ := laA.ex
      exact ⟨⟨C, T, n, (bB.block _ (by rw [hzA]; omega)).trans h1, h2, h3⟩⟩
    have BB := hid (below_to (below_to (below_to B2.out bX) bA) bB)
    have LA := hid laA2
    have LB := hid laB
    have hWw : W.heap.size ≤ w2.heap.size := B2.out.size
    have HKS := hid hKs
    have HKLEN := hid hKlen
    clear hKl laA laB laA2 bA bX bB hKlen hX
    go_wp2_with fail
    generalize Lib.bytesWorld (Lib.bytesWorld (w2.alloc (.cells (brow (List.replicate (64 - k0.size) 0)) 5)) 5 K) 5 K = w5 at *
    generalize w2.heap.size = N at *
    clear hcA hmk hcv hzA
    go_loopw [7] (fun i wr => ∃ k : Nat, k ≤ 64 ∧ i = .int .i64 (k : Int) ∧ Laid wr (N + 1) (xorl K.data.toList 0x36 k) ∧ Laid wr (N + 1 + 1) (xorl K.data.toList 0x5c k) ∧ Below W.heap.size W wr) (fun i _ => (64 - intOf i).toNat)
    case atStart => exact ⟨0, by omega, rfl, LA.out, LB.out, BB.out⟩
    case round =>
      clear LA LB BB
      obtain ⟨k, hk64, rfl, ra, rbb, rb⟩ := hrel
      have RA := hid ra
      have RBB := hid rbb
      have RB := hid rb
      by_cases hlt : k < 64
      · have hd : decide ((k : Int) < 64) = true := decide_eq_true (by omega)
        have hkl2 : k < K.data.toList.length := by rw [HKLEN.out]; exact hlt
        have ca := ra.cell (j := k) (by rw [xorl_len]; exact hkl2)
        have cb := rbb.cell (j := k) (by rw [xorl_len]; exact hkl2)
        have fa := ra.free (j := k) (by rw [xorl_len]; exact hkl2)
        have fb := rbb.free (j := k) (by rw [xorl_len]; exact hkl2)
        rw [xorl_at _ hkl2] at ca cb
        have s1 := xorl_step 0x36 hkl2
        have s2 := xorl_step 0x5c hkl2
        obtain ⟨x, hx⟩ : ∃ x, K.data.toList.getD k 0 = x := ⟨_, rfl⟩
        rw [hx] at ca cb s1 s2
        have x1 : bits .xor .u8 (x.toNat : Int) 54 = ((0x36 ^^^ x : UInt8).toNat : Int) := by rw [UInt8.xor_comm]; exact xor_u8 x 0x36
        have x2 : bits .xor .u8 (x.toNat : Int) 92 = ((0x5c ^^^ x : UInt8).toNat : Int) := by rw [UInt8.xor_comm]; exact xor_u8 x 0x5c
        have S1 := hid s1
        have S2 := hid s2
        have hk0 : (0 : Int) ≤ (k : Int) := by omega
        have hk1 : (k : Int) < 64 := by omega
        clear ra rbb rb hkl2 s1 s2 hx
        go_wp2_with fail
        rw [show ((54 ^^^ x.toNat : Nat) : Int) = ((0x36 ^^^ x : UInt8).toNat : Int) from by rw [UInt8.toNat_xor]; rfl, show ((92 ^^^ x.toNat : Nat) : Int) = ((0x5c ^^^ x : UInt8).toNat : Int) from by rw [UInt8.toNat_xor]; rfl]
        refine ⟨⟨k + 1, by omega, by go_num, ?_, ?_, (RB.out.setCell (show W.heap.size ≤ N + 1 by omega) _).setCell (show W.heap.size ≤ N + 1 + 1 by omega) _⟩, by simp [intOf]; omega⟩
        · rw [← S1.out]
          exact (RA.out.set k _).other (by show N + 1 + 1 ≠ N + 1; omega) _
        · rw [← S2.out]
          exact (RBB.out.other (by show N + 1 ≠ N + 1 + 1; omega) _).set k _
      · have hd : decide ((k : Int) < 64) = false := decide_eq_false (by omega)
        have hk8 : k = 64 := by omega
        rw [hk8, ← HKLEN.out, xorl_all, HKK.out, padded_map] at ra rbb
        obtain ⟨P2, hP2⟩ : ∃ P2 : ByteArray, (⟨(SM.padded key.data.toList 0x36).toArray⟩ : ByteArray) = P2 := ⟨_, rfl⟩
        have hP2l : P2.data.toList = SM.padded key.data.toList 0x36 := by rw [← hP2]
        have hP2s : P2.size = 64 := by rw [← hP2]; exact SM.padded_length _ _
        obtain ⟨P1, hP1⟩ : ∃ P1 : ByteArray, (⟨(SM.padded key.data.toList 0x5c).toArray⟩ : ByteArray) = P1 := ⟨_, rfl⟩
        have hP1l : P1.data.toList = SM.padded key.data.toList 0x5c := by rw [← hP1]
        have hP1s : P1.size = 64 := by rw [← hP1]; exact SM.padded_length _ _
        obtain ⟨D, hD⟩ : ∃ D : ByteArray, (⟨(SM.sum (P2 ++ s).data.toList).toArray⟩ : ByteArray) = D := ⟨_, rfl⟩
        have hDl : D.data.toList = SM.sum (SM.padded key.data.toList 0x36 ++ s.data.toList) := by rw [← hD]; simp [hP2l]
        have hDs : D.size = 32 := by rw [← hD]; rfl
        have hcA : ∀ (cp : Nat) (x : Later wr), (convert 57 9 (.slice (some ⟨N + 1, 0, none⟩) 64 cp)).run Tryd.prog x.w' = .ok (.string P2) x.w' := fun cp x => by
          rw [← hP2]
          refine conv_string _ (N + 1) 0 64 cp _ (SM.padded_length _ _) fun j hj => ?_
          rw [Nat.zero_add]
          exact later_cell (ra.cell (by rw [SM.padded_length]; exact hj)) x
        have hcB : ∀ (cp : Nat) (x : Later wr), (convert 57 9 (.slice (some ⟨N + 1 + 1, 0, none⟩) 64 cp)).run Tryd.prog x.w' = .ok (.string P1) x.w' := fun cp x => by
          rw [← hP1]
          refine conv_string _ (N + 1 + 1) 0 64 cp _ (SM.padded_length _ _) fun j hj => ?_
          rw [Nat.zero_add]
          exact later_cell (rbb.cell (by rw [SM.padded_length]; exact hj)) x
        have hsz5 : (P2 ++ s).size = P2.size + s.size := ByteArray.size_append
        have hsz6 : (P1 ++ D).size = P1.size + D.size := ByteArray.size_append
        have h5 : ∀ x : Later wr, Calls Tryd.prog 16 #[.string (P2 ++ s)] x.w' fun e w' => e = .returned (.string D) ∧ Below x.w'.heap.size x.w' w' := fun x => by rw [← hD]; exact ROf_any _ _ (by omega)
        have h6 : ∀ x : Later wr, Calls Tryd.prog 16 #[.string (P1 ++ D)] x.w' fun e w' => e = .returned (.string ⟨(SM.tag key.data.toList s.data.toList).toArray⟩) ∧ Below x.w'.heap.size x.w' w' := fun x => by
          have h := ROf_any (P1 ++ D) x.w' (by omega)
          have e : (P1 ++ D).data.toList = SM.padded key.data.toList 0x5c ++ SM.sum (SM.padded key.data.toList 0x36 ++ s.data.toList) := by rw [← hP1l, ← hDl]; simp
          rw [e] at h
          exact h
        have H5 := hid h5
        have H6 := hid h6
        have hss : s.size ≤ 9223372036854775807 := by omega
        clear ra rbb rb hP1 hP2 hD hP1l hP2l hDl h5 h6 hsz5 hsz6 hk8
        go_wp2_with fail
        refine wp_region_later (by kernel_rfl) (by kernel_rfl) ?_
        repeat ((go_big_quiet_step ((go_at_call 16; first | with_reducible exact calls_later (H5.out _) | with_reducible exact calls_later (H6.out _)))))
        refine wpQuiet_nil ?_
        intro wL hwL
        obtain ⟨⟨w8, hL⟩, e8⟩ := hwL
        change wL = w8 at e8
        subst e8
        go_wp2_with fail
        go_ret
        exact ⟨rfl, below_to RB.out hL⟩
  · have hd : decide ((key.size : Int) > 64) = false := decide_eq_false (by omega)
    have hkl : key.data.toList = SM.key key.data.toList := by unfold SM.key; rw [HL.out, if_neg hc]
    have HKL := hid hkl
    clear hkl
    obtain ⟨w2, hw2⟩ : ∃ w2, W = w2 := ⟨_, rfl⟩
    have B2 := hid (show Below W.heap.size W w2 by rw [← hw2]; exact Below.refl _ _)
    go_enter Tryd.func18, Tryd.ntmps18
    have hK : ∃ K : ByteArray, key ++ (⟨Array.replicate (64 - key.size) 0⟩ : ByteArray) = K := ⟨_, rfl⟩
    obtain ⟨K, hK⟩ := hK
    have hks : key.size ≤ 64 := by
      have h1 : key.data.toList.length = key.size := by simp
      rw [← h1, HKL.out]; exact SM.key_le _
    have hKl : K.data.toList = SM.key key.data.toList ++ List.replicate (64 - (SM.key key.data.toList).length) 0 := by
      have h1 : key.data.toList.length = key.size := by simp
      rw [← hK, ← HKL.out, h1]; simp
    have hKs : K.size = 64 := by
      have h1 : K.data.toList.length = K.size := by simp
      have h2 := SM.key_le key.data.toList
      rw [← h1, hKl, List.length_append, List.length_replicate]; omega
    have hsub : (64 : Int) - (key.size : Int) = ((64 - key.size : Nat) : Int) := by omega
    have hmk := fun w => make_nn (64 - key.size) (by omega) w
    have hcv := fun w => conv_zeros (64 - key.size) w
    have HKK := hid hKl
    have hKlen : K.data.toList.length = 64 := by rw [← hKs]; simp
    have hX : (w2.alloc (.cells (brow (List.replicate (64 - key.size) 0)) 5)).heap.size = w2.heap.size + 1 := by simp
    have laA := laid_bytes (w2.alloc (.cells (brow (List.replicate (64 - key.size) 0)) 5)) K
    have bA := bytesWorld_below (w2.alloc (.cells (brow (List.replicate (64 - key.size) 0)) 5)) 5 K
    have bX := below_new (w := w2) (.cells (brow (List.replicate (64 - key.size) 0)) 5)
    rw [hX] at laA
    have hcA : ∀ cp, (convert 57 9 (.slice (some ⟨w2.heap.size + 1, 0, none⟩) 64 cp)).run Tryd.prog (Lib.bytesWorld (w2.alloc (.cells (brow (List.replicate (64 - key.size) 0)) 5)) 5 K) = .ok (.string K) (Lib.bytesWorld (w2.alloc (.cells (brow (List.replicate (64 - key.size) 0)) 5)) 5 K) := fun cp => by
      rw [conv_string _ (w2.heap.size + 1) 0 64 cp K.data.toList hKlen (fun j hj => by rw [Nat.zero_add]; exact laA.cell (by rw [hKlen]; exact hj))]
    have hzA : (Lib.bytesWorld (w2.alloc (.cells (brow (List.replicate (64 - key.size) 0)) 5)) 5 K).heap.size = w2.heap.size + 1 + 1 := by rw [Lib.bytesWorld_size, hX]
    have laB := laid_bytes (Lib.bytesWorld (w2.alloc (.cells (brow (List.replicate (64 - key.size) 0)) 5)) 5 K) K
    have bB := bytesWorld_below (Lib.bytesWorld (w2.alloc (.cells (brow (List.replicate (64 - key.size) 0)) 5)) 5 K) 5 K
    rw [hzA] at laB
    have laA2 : Laid (Lib.bytesWorld (Lib.bytesWorld (w2.alloc (.cells (brow (List.replicate (64 - key.size) 0)) 5)) 5 K) 5 K) (w2.heap.size + 1) K.data.toList := by
      obtain ⟨C, T, n, h1, h2, h3⟩ := laA.ex
      exact ⟨⟨C, T, n, (bB.block _ (by rw [hzA]; omega)).trans h1, h2, h3⟩⟩
    have BB := hid (below_to (below_to (below_to B2.out bX) bA) bB)
    have LA := hid laA2
    have LB := hid laB
    have hWw : W.heap.size ≤ w2.heap.size := B2.out.size
    have HKS := hid hKs
    have HKLEN := hid hKlen
    clear hKl laA laB laA2 bA bX bB hKlen hX
    go_wp2_with fail
    generalize Lib.bytesWorld (Lib.bytesWorld (w2.alloc (.cells (brow (List.replicate (64 - key.size) 0)) 5)) 5 K) 5 K = w5 at *
    generalize w2.heap.size = N at *
    clear hcA hmk hcv hzA
    go_loopw [7] (fun i wr => ∃ k : Nat, k ≤ 64 ∧ i = .int .i64 (k : Int) ∧ Laid wr (N + 1) (xorl K.data.toList 0x36 k) ∧ Laid wr (N + 1 + 1) (xorl K.data.toList 0x5c k) ∧ Below W.heap.size W wr) (fun i _ => (64 - intOf i).toNat)
    case atStart => exact ⟨0, by omega, rfl, LA.out, LB.out, BB.out⟩
    case round =>
      clear LA LB BB
      obtain ⟨k, hk64, rfl, ra, rbb, rb⟩ := hrel
      have RA := hid ra
      have RBB := hid rbb
      have RB := hid rb
      by_cases hlt : k < 64
      · have hd : decide ((k : Int) < 64) = true := decide_eq_true (by omega)
        have hkl2 : k < K.data.toList.length := by rw [HKLEN.out]; exact hlt
        have ca := ra.cell (j := k) (by rw [xorl_len]; exact hkl2)
        have cb := rbb.cell (j := k) (by rw [xorl_len]; exact hkl2)
        have fa := ra.free (j := k) (by rw [xorl_len]; exact hkl2)
        have fb := rbb.free (j := k) (by rw [xorl_len]; exact hkl2)
        rw [xorl_at _ hkl2] at ca cb
        have s1 := xorl_step 0x36 hkl2
        have s2 := xorl_step 0x5c hkl2
        obtain ⟨x, hx⟩ : ∃ x, K.data.toList.getD k 0 = x := ⟨_, rfl⟩
        rw [hx] at ca cb s1 s2
        have x1 : bits .xor .u8 (x.toNat : Int) 54 = ((0x36 ^^^ x : UInt8).toNat : Int) := by rw [UInt8.xor_comm]; exact xor_u8 x 0x36
        have x2 : bits .xor .u8 (x.toNat : Int) 92 = ((0x5c ^^^ x : UInt8).toNat : Int) := by rw [UInt8.xor_comm]; exact xor_u8 x 0x5c
        have S1 := hid s1
        have S2 := hid s2
        have hk0 : (0 : Int) ≤ (k : Int) := by omega
        have hk1 : (k : Int) < 64 := by omega
        clear ra rbb rb hkl2 s1 s2 hx
        go_wp2_with fail
        rw [show ((54 ^^^ x.toNat : Nat) : Int) = ((0x36 ^^^ x : UInt8).toNat : Int) from by rw [UInt8.toNat_xor]; rfl, show ((92 ^^^ x.toNat : Nat) : Int) = ((0x5c ^^^ x : UInt8).toNat : Int) from by rw [UInt8.toNat_xor]; rfl]
        refine ⟨⟨k + 1, by omega, by go_num, ?_, ?_, (RB.out.setCell (show W.heap.size ≤ N + 1 by omega) _).setCell (show W.heap.size ≤ N + 1 + 1 by omega) _⟩, by simp [intOf]; omega⟩
        · rw [← S1.out]
          exact (RA.out.set k _).other (by show N + 1 + 1 ≠ N + 1; omega) _
        · rw [← S2.out]
          exact (RBB.out.other (by show N + 1 ≠ N + 1 + 1; omega) _).set k _
      · have hd : decide ((k : Int) < 64) = false := decide_eq_false (by omega)
        have hk8 : k = 64 := by omega
        rw [hk8, ← HKLEN.out, xorl_all, HKK.out, padded_map] at ra rbb
        obtain ⟨P2, hP2⟩ : ∃ P2 : ByteArray, (⟨(SM.padded key.data.toList 0x36).toArray⟩ : ByteArray) = P2 := ⟨_, rfl⟩
        have hP2l : P2.data.toList = SM.padded key.data.toList 0x36 := by rw [← hP2]
        have hP2s : P2.size = 64 := by rw [← hP2]; exact SM.padded_length _ _
        obtain ⟨P1, hP1⟩ : ∃ P1 : ByteArray, (⟨(SM.padded key.data.toList 0x5c).toArray⟩ : ByteArray) = P1 := ⟨_, rfl⟩
        have hP1l : P1.data.toList = SM.padded key.data.toList 0x5c := by rw [← hP1]
        have hP1s : P1.size = 64 := by rw [← hP1]; exact SM.padded_length _ _
        obtain ⟨D, hD⟩ : ∃ D : ByteArray, (⟨(SM.sum (P2 ++ s).data.toList).toArray⟩ : ByteArray) = D := ⟨_, rfl⟩
        have hDl : D.data.toList = SM.sum (SM.padded key.data.toList 0x36 ++ s.data.toList) := by rw [← hD]; simp [hP2l]
        have hDs : D.size = 32 := by rw [← hD]; rfl
        have hcA : ∀ (cp : Nat) (x : Later wr), (convert 57 9 (.slice (some ⟨N + 1, 0, none⟩) 64 cp)).run Tryd.prog x.w' = .ok (.string P2) x.w' := fun cp x => by
          rw [← hP2]
          refine conv_string _ (N + 1) 0 64 cp _ (SM.padded_length _ _) fun j hj => ?_
          rw [Nat.zero_add]
          exact later_cell (ra.cell (by rw [SM.padded_length]; exact hj)) x
        have hcB : ∀ (cp : Nat) (x : Later wr), (convert 57 9 (.slice (some ⟨N + 1 + 1, 0, none⟩) 64 cp)).run Tryd.prog x.w' = .ok (.string P1) x.w' := fun cp x => by
          rw [← hP1]
          refine conv_string _ (N + 1 + 1) 0 64 cp _ (SM.padded_length _ _) fun j hj => ?_
          rw [Nat.zero_add]
          exact later_cell (rbb.cell (by rw [SM.padded_length]; exact hj)) x
        have hsz5 : (P2 ++ s).size = P2.size + s.size := ByteArray.size_append
        have hsz6 : (P1 ++ D).size = P1.size + D.size := ByteArray.size_append
        have h5 : ∀ x : Later wr, Calls Tryd.prog 16 #[.string (P2 ++ s)] x.w' fun e w' => e = .returned (.string D) ∧ Below x.w'.heap.size x.w' w' := fun x => by rw [← hD]; exact ROf_any _ _ (by omega)
        have h6 : ∀ x : Later wr, Calls Tryd.prog 16 #[.string (P1 ++ D)] x.w' fun e w' => e = .returned (.string ⟨(SM.tag key.data.toList s.data.toList).toArray⟩) ∧ Below x.w'.heap.size x.w' w' := fun x => by
          have h := ROf_any (P1 ++ D) x.w' (by omega)
          have e : (P1 ++ D).data.toList = SM.padded key.data.toList 0x5c ++ SM.sum (SM.padded key.data.toList 0x36 ++ s.data.toList) := by rw [← hP1l, ← hDl]; simp
          rw [e] at h
          exact h
        have H5 := hid h5
        have H6 := hid h6
        have hss : s.size ≤ 9223372036854775807 := by omega
        clear ra rbb rb hP1 hP2 hD hP1l hP2l hDl h5 h6 hsz5 hsz6 hk8
        go_wp2_with fail
        refine wp_region_later (by kernel_rfl) (by kernel_rfl) ?_
        repeat ((go_big_quiet_step ((go_at_call 16; first | with_reducible exact calls_later (H5.out _) | with_reducible exact calls_later (H6.out _)))))
        refine wpQuiet_nil ?_
        intro wL hwL
        obtain ⟨⟨w8, hL⟩, e8⟩ := hwL
        change wL = w8 at e8
        subst e8
        go_wp2_with fail
        go_ret
        exact ⟨rfl, below_to RB.out hL⟩

end Go.Proofs.YtejkimhmpnogkaaDoor
