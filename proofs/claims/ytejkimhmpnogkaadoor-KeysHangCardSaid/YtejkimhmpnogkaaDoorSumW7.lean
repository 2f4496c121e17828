/- The walk of Sum. -/
import Derived.Test.YtejkimhmpnogkaaDoorSumW6
import Derived.Test.YtejkimhmpnogkaaDoorBRW
namespace Go.Proofs.YtejkimhmpnogkaaDoor
open Go.RowKit

theorem sum_nil (w : World) : Calls Tryd.prog 22 #[.pointer none] w fun e w' => e = .returned (.string ⟨#[]⟩) ∧ w = w' := by
  go_enter Tryd.func22, Tryd.ntmps22
  go_wp2_with fail
  refine (copy_nil _).mono ?_
  rintro e w' ⟨rfl, rfl⟩
  go_wp2_with fail
  go_ret
  exact ⟨rfl, rfl⟩

theorem Tab.alloc' {w : World} (h : Tab w) (o : Obj) : Tab (w.alloc o) := h.keep (below_new o)
theorem madeZ (n : Nat) : madeCells (Value.int .u8 0).cells n = brow (List.replicate n 0) := by
  apply Array.ext'
  unfold brow
  simp only [madeCells, Value.cells, List.map_replicate]
  apply List.ext_getElem
  · simp
  · intro i h1 h2
    simp [Nat.mod_one]
theorem make_nn (n : Nat) (h : n ≤ 1099511627776) (w : World) : (Instr.makeSlice 57 (.int .i64 (n : Int)) (.int .i64 (n : Int))).run Tryd.prog w = .ok (.slice (some ⟨w.heap.size, 0, none⟩) n n) (w.alloc (.cells (brow (List.replicate n 0)) 5)) := by
  obtain ⟨i0, hi, hz0, hz1, hz2⟩ := info_parts info_u8
  have := run_make (P := Tryd.prog) w 57 5 i0 (.int .u8 0) Tryd.underlying57 hi hz0 .i64 .i64 (n : Int) (n : Int) (by omega) (by omega) (by rw [hz2]; omega) (by omega)
  rw [this]
  simp only [hz1, Int.toNat_natCast, Nat.mul_one]
  rw [madeZ]
theorem conv_brow (l : List UInt8) (w : World) (cap : Nat) : (convert 57 9 (.slice (some ⟨w.heap.size, 0, none⟩) l.length cap)).run Tryd.prog (w.alloc (.cells (brow l) 5)) = .ok (.string ⟨l.toArray⟩) (w.alloc (.cells (brow l) 5)) :=
  conv_string _ _ 0 l.length cap l rfl fun j hj => by rw [Nat.zero_add]; exact brow_cell (alloc_at w _) hj
theorem conv_zeros (n : Nat) (w : World) : (convert 57 9 (.slice (some ⟨w.heap.size, 0, none⟩) n n)).run Tryd.prog (w.alloc (.cells (brow (List.replicate n 0)) 5)) = .ok (.string ⟨(List.replicate n 0).toArray⟩) (w.alloc (.cells (brow (List.replicate n 0)) 5)) := by
  have := conv_brow (List.replicate n 0) w n
  rwa [List.length_replicate] at this

theorem mbyte_of (x : UInt64) (k : Nat) (h : k < 64) : ((x >>> UInt64.ofNat k).toUInt8.toNat : Int) = UW x / (2 : Int) ^ k % 256 := by
  rw [u_shr x k h]
  unfold UW
  rw [UInt64.toNat_toUInt8]; omega
theorem mbytes8_getD (x : UInt64) (j : Nat) (h : j < 8) : (SM.bytes8 x).getD j 0 = (x >>> UInt64.ofNat (56 - 8 * j)).toUInt8 := by
  match j, h with
  | 0, _ => rfl
  | 1, _ => rfl
  | 2, _ => rfl
  | 3, _ => rfl
  | 4, _ => rfl
  | 5, _ => rfl
  | 6, _ => rfl
  | 7, _ => rfl
theorem num_byte (n k : Nat) (hn : n < 1152921504606846976) (h : k < 8) : 8 * (n : Int) / (2 : Int) ^ (56 - 8 * k) % 256 = (((SM.bytes8 (8 * UInt64.ofNat n)).getD k 0).toNat : Int) := by
  have e2 : UW (8 * UInt64.ofNat n) = 8 * (n : Int) := by
    unfold UW
    rw [UInt64.toNat_mul, UInt64.toNat_ofNat', show (8 : UInt64).toNat = 8 from rfl, Nat.mod_eq_of_lt (a := n) (b := 2 ^ 64) (by omega), Nat.mod_eq_of_lt (by omega)]
    omega
  rw [mbytes8_getD _ _ h, mbyte_of _ _ (by omega), e2]
theorem put_u8 {A B : List UInt8} (h : A.length = B.length) {i : Nat} (hi : i < A.length) : (A.take i ++ B.drop i).set i (A.getD i 0) = A.take (i + 1) ++ B.drop (i + 1) := by
  have h1 : (A.take i).length = i := by rw [List.length_take]; omega
  rw [List.set_append_right _ _ (by omega), h1, Nat.sub_self, List.drop_eq_getElem_cons (by omega), List.set_cons_zero, List.take_succ_eq_append_getElem hi, List.append_assoc]
  simp [hi]
theorem idx8 (l : List UInt32) (hl : l.length = 8) (i : Nat) (hi : i < 8) (w : World) : (Instr.index 59 (.agg (vrow l)) (.int .i64 (i : Int))).run Tryd.prog w = .ok (.int .u32 (UV (l.getD i 0))) w := by
  have hsz : (sizeOf 58).run Tryd.prog w = .ok 1 w := by kernel_rfl
  unfold Instr.index
  simp only [Sem.run_bind, asIntOf, Sem.run_pure, Result.andThen_ok, run_underlying Tryd.underlying59]
  rw [if_pos (by omega)]
  simp only [Sem.run_bind, hsz, Result.andThen_ok, Nat.mul_one, Int.toNat_natCast]
  unfold part
  have hagg : (isAgg 58).run Tryd.prog w = .ok false w := by
    unfold isAgg
    rw [Sem.run_bind, run_underlying Tryd.underlying58 w]
    rfl
  simp [Sem.run_bind, hagg, vrow_get l (show i < l.length by omega)]
theorem vbyte (x : UInt32) (k : Nat) (h : k < 32) : UV x / (2 : Int) ^ k % 256 = ((x >>> UInt32.ofNat k).toUInt8.toNat : Int) := by
  rw [v_shr x k h]
  unfold UV
  rw [UInt32.toNat_toUInt8]; omega
theorem out_step (st : SM.St) (k : Nat) (hk : k < 8) : (SM.out st).take (4 * (k + 1)) = (SM.out st).take (4 * k) ++ SM.bytes4 ((mstl st).getD k 0) := by
  have hk' : k = 0 ∨ k = 1 ∨ k = 2 ∨ k = 3 ∨ k = 4 ∨ k = 5 ∨ k = 6 ∨ k = 7 := by omega
  rcases hk' with rfl | rfl | rfl | rfl | rfl | rfl | rfl | rfl <;> rfl
theorem bytes4_vals (x : UInt32) : u8s (SM.bytes4 x) = [.int .u8 (UV x / 16777216 % 256), .int .u8 (UV x / 65536 % 256), .int .u8 (UV x / 256 % 256), .int .u8 (UV x % 256)] := by
  have h0 := vbyte x 24 (by decide)
  have h1 := vbyte x 16 (by decide)
  have h2 := vbyte x 8 (by decide)
  have h3 := vbyte x 0 (by decide)
  simp only [show ((2 : Int) ^ 24) = 16777216 from rfl, show ((2 : Int) ^ 16) = 65536 from rfl, show ((2 : Int) ^ 8) = 256 from rfl, show ((2 : Int) ^ 0) = 1 from rfl, Int.ediv_one] at h0 h1 h2 h3
  rw [h0, h1, h2, h3]
  rfl

set_option maxRecDepth 100000 in
set_option maxHeartbeats 2000000 in
theorem sum_any {w : World} {B hb : Nat} {A : List UInt8} (h : HashAt w B hb A) (_hB : 0 < B) (hT : Tab w) (hA : A.length ≤ 137438953472) :
    Calls Tryd.prog 22 #[.pointer (some ⟨hb, 0, none⟩)] w fun e w' => e = .returned (.string ⟨(SM.sum A).toArray⟩) ∧ Below w.heap.size w w' := by
  have HT := hid hT
  have hC0 := hT.lt
  have HCP := hid (copy_any h (by omega))
  have H0 := hid h
  have T0 := hid hT
  clear h hT
  go_enter Tryd.func22, Tryd.ntmps22
  go_wp2_with fail
  refine HCP.out.mono ?_
  rintro e w1 ⟨rfl, hc1, hb1⟩
  have HC1 := hid hc1
  have BL1 := hid hb1
  have H1 := hid (H0.out.keep hb1)
  have T1 := hid (HT.out.keep hb1)
  have hsz1 := hb1.size
  obtain ⟨C, hC⟩ : ∃ C, w.heap.size = C := ⟨_, rfl⟩
  rw [hC] at HC1 BL1 hC0 hsz1 ⊢
  have HCC := hid hC
  clear HT HCP hc1 hb1 hC
  obtain ⟨v, o, r, hbuf, _⟩ := H1.out
  have bl := blen_any hbuf
  obtain ⟨m, hm⟩ : ∃ m, (A.drop (64 * (A.length / 64))).length = m := ⟨_, rfl⟩
  rw [hm] at bl
  rw [List.length_drop] at hm
  have BL := hid bl
  clear hbuf bl
  obtain ⟨z, hz⟩ : ∃ z, SM.zeros A.length = z := ⟨_, rfl⟩
  have hzz : (119 - (m : Int)) % 64 = (z : Int) := by rw [← hz]; unfold SM.zeros; omega
  have hz64 : z < 64 := by rw [← hz]; unfold SM.zeros; omega
  have hm64 : (m : Int) < 64 := by omega
  have hmk := fun w => make_nn z (by omega) w
  have hcv := fun w => conv_zeros z w
  have HZ := hid hz
  clear hm hz
  go_wp2_with fail
  refine BL.out.mono ?_
  rintro e w2 ⟨rfl, hd2⟩
  have BL2 := hid (BL1.out.trans (Dr.below hd2))
  have HC2 := hid (HC1.out.keep (Dr.below hd2))
  have H2 := hid (H1.out.keep (Dr.below hd2))
  have T2 := hid (T1.out.keep (Dr.below hd2))
  clear hd2 BL BL1 HC1 H1 T1
  go_wp2_with fail
  have hN3 : w2.heap.size < (w2.alloc (.cells (brow (List.replicate z 0)) 5)).heap.size := by simp
  have BL3 := hid (below_to (W := w) (w := w2) (w' := w2.alloc (.cells (brow (List.replicate z 0)) 5)) (by rw [HCC.out]; exact BL2.out) (below_new _))
  rw [HCC.out] at BL3
  have HC3 := hid (HC2.out.keep (below_new (w := w2) (.cells (brow (List.replicate z 0)) 5)))
  have H3 := hid (H2.out.keep (below_new (w := w2) (.cells (brow (List.replicate z 0)) 5)))
  have T3 := hid (T2.out.alloc' (.cells (brow (List.replicate z 0)) 5))
  generalize w2.alloc (.cells (brow (List.replicate z 0)) 5) = w3 at *
  obtain ⟨s1, hs1⟩ : ∃ s1 : ByteArray, (⟨#[128]⟩ : ByteArray) ++ ⟨Array.replicate z 0⟩ = s1 := ⟨_, rfl⟩
  have hs1l : s1.data.toList = [0x80] ++ List.replicate (SM.zeros A.length) 0 := by rw [← hs1, HZ.out]; simp
  have hs1s : s1.size = 1 + z := by rw [← hs1]; simp [ByteArray.size, Nat.add_comm]
  have HS1L := hid hs1l
  have hc3b : C ≤ w3.heap.size := by have := BL3.out.size; rw [HCC.out] at this; exact this
  have hadd := add_any s1 HC3.out hC0 hc3b T3.out (by omega)
  have HADD := hid hadd
  rw [hs1]
  clear hadd hs1l hs1 BL2 HC2 H2 T2 hmk hcv hzz hN3
  refine HADD.out.mono ?_
  rintro e w4 ⟨rfl, hc4, hb4⟩
  have HC4 := hid hc4
  have BL4 := hid (BL3.out.trans hb4)
  clear hc4 hb4 HADD BL3 HC3 H3 T3
  obtain ⟨A1, hA1⟩ : ∃ A1, A ++ s1.data.toList = A1 := ⟨_, rfl⟩
  rw [hA1] at HC4
  have hA1l : A1.length = A.length + 1 + z := by rw [← hA1, List.length_append]; simp [hs1s]; omega
  have HA1 := hid hA1
  clear hA1 hm64
  go_wp2_with fail
  obtain ⟨N8, hN8⟩ : ∃ N8, w4.heap.size = N8 := ⟨_, rfl⟩
  have hCN : C ≤ N8 := by rw [← hN8]; have := BL4.out.size; rw [HCC.out] at this; exact this
  have f8 : (w4.alloc (.cells (brow (List.replicate 8 0)) 80)).heap[N8]? = some (.cells (brow (List.replicate 8 0)) 80 (0, 0)) := alloc_at' hN8.symm _
  have BL5 := hid ((below_new (w := w4) (.cells (brow (List.replicate 8 0)) 80)).mono (Nat.le_of_eq hN8.symm))
  have F8 := hid f8
  obtain ⟨n, hn⟩ : ∃ n, A.length = n := ⟨_, rfl⟩
  have HN := hid hn
  have HN8 := hid hN8
  have hbl8 : (SM.bytes8 (8 * UInt64.ofNat n)).length = 8 := rfl
  have hnn : (n : Int) ≤ 137438953472 := by rw [hn] at hA; omega
  rw [hN8]
  clear f8 hN8 hn
  go_loopw [24] (fun i wr => ∃ k : Nat, k ≤ 8 ∧ i = .int .i64 (k : Int) ∧ wr.heap[N8]? = some (.cells (brow ((SM.bytes8 (8 * UInt64.ofNat n)).take k ++ (List.replicate 8 0).drop k)) 80 (0, 0)) ∧ Below N8 w4 wr) (fun i _ => (8 - intOf i).toNat)
  case atStart => exact ⟨0, by omega, rfl, F8.out, BL5.out⟩
  case round =>
    clear F8 BL5
    obtain ⟨k, hk, rfl, r8, rb⟩ := hrel
    have R8 := hid r8
    have RB := hid rb
    have rc := HC4.out.keep (by rw [HN8.out]; exact rb)
    have rbw := BL4.out.trans (rb.mono hCN)
    by_cases hlt : k < 8
    · have hd : decide ((k : Int) < 8) = true := decide_eq_true (by omega)
      have cn := (H0.out.keep (by rw [HCC.out]; exact rbw)).num
      rw [HN.out] at cn
      have hl8 : k < ((SM.bytes8 (8 * UInt64.ofNat n)).take k ++ (List.replicate 8 (0 : UInt8)).drop k).length := by simp [hbl8]; omega
      have c8 := brow_cell r8 hl8
      have f8 := free_at r8
      have hk0 : 0 ≤ (k : Int) := by omega
      have hk1 : (k : Int) < 8 := by omega
      have hsub : (56 : Int) - 8 * (k : Int) = ((56 - 8 * k : Nat) : Int) := by omega
      have hsh : 56 - 8 * k < 64 := by omega
      clear r8 rc rb hl8 rbw
      go_wp2_with fail
      rw [num_byte n k (by omega) hlt]
      refine ⟨⟨k + 1, by omega, by go_num, ?_, RB.out.setCell (Nat.le_refl N8) _⟩, by simp [intOf]; omega⟩
      rw [← put_u8 (A := SM.bytes8 (8 * UInt64.ofNat n)) (B := List.replicate 8 0) rfl (by rw [hbl8]; exact hlt)]
      exact brow_store R8.out k _
    · have hd : decide ((k : Int) < 8) = false := decide_eq_false (by omega)
      have hk8 : k = 8 := by omega
      rw [hk8] at r8
      have e8 : (SM.bytes8 (8 * UInt64.ofNat n)).take 8 ++ (List.replicate 8 (0 : UInt8)).drop 8 = SM.bytes8 (8 * UInt64.ofNat n) := rfl
      rw [e8] at r8
      have hcv := conv_string wr N8 0 8 8 (SM.bytes8 (8 * UInt64.ofNat n)) rfl (fun j hj => by rw [Nat.zero_add]; exact brow_cell r8 (by rw [hbl8]; exact hj))
      obtain ⟨s2, hs2⟩ : ∃ s2 : ByteArray, (⟨(SM.bytes8 (8 * UInt64.ofNat n)).toArray⟩ : ByteArray) = s2 := ⟨_, rfl⟩
      rw [hs2] at hcv
      have hs2s : s2.size = 8 := by rw [← hs2]; rfl
      have hpad : A1 ++ s2.data.toList = SM.pad A := by
        rw [← hs2, ← HA1.out, HS1L.out, ← HN.out]
        rfl
      have hrs : C ≤ wr.heap.size := by have := rbw.size; rw [HCC.out] at this; exact this
      have hT := T0.out.keep (by rw [HCC.out]; exact rbw)
      have hadd := add_any s2 rc hC0 hrs hT (by omega)
      rw [hpad] at hadd
      have HADD := hid hadd
      have RBW := hid rbw
      clear r8 rc rb RB R8 hadd hT hs2 hpad e8 rbw hk8
      go_wp2_with fail
      refine HADD.out.mono ?_
      rintro e w6 ⟨rfl, hc6, hb6⟩
      have BL6 := RBW.out.trans hb6
      obtain ⟨v6, o6, r6, hbf, _⟩ := hc6
      have hat := hbf.at_
      rw [hcs_bset] at hat
      generalize hst : SM.run (SM.pad A) ((SM.pad A).length / 64) = st at *
      have hsum : SM.out st = SM.sum A := by unfold SM.sum; rw [hst]
      obtain ⟨c0, c1, c2, c3, c4, c5, c6, c7⟩ := vob_oct hat
      have HBL6 := hid BL6
      have HSUM := hid hsum
      obtain ⟨x0, x1, x2, x3, x4, x5, x6, x7⟩ := st
      have hix : ∀ i : Nat, i < 8 → ∀ w, (Instr.index 59 (.agg #[.int .u32 (UV x0), .int .u32 (UV x1), .int .u32 (UV x2), .int .u32 (UV x3), .int .u32 (UV x4), .int .u32 (UV x5), .int .u32 (UV x6), .int .u32 (UV x7)]) (.int .i64 (i : Int))).run Tryd.prog w = .ok (.int .u32 (UV ((mstl ⟨x0, x1, x2, x3, x4, x5, x6, x7⟩).getD i 0))) w := by
        intro i hi w
        exact idx8 (mstl ⟨x0, x1, x2, x3, x4, x5, x6, x7⟩) rfl i hi w
      have HIX := hid hix
      obtain ⟨i0, hi, hz0, hz1, hz2⟩ := info_parts info_u8
      clear hst hsum hbf hat hix BL6 hb6 HADD RBW hcv
      go_wp2_with fail
      clear c0 c1 c2 c3 c4 c5 c6 c7 hd
      generalize hst : (⟨x0, x1, x2, x3, x4, x5, x6, x7⟩ : SM.St) = st at *
      clear hst
      go_loopw [6, 49] (fun v i wr => ∃ k : Nat, k ≤ 8 ∧ i = .int .i64 (k : Int) ∧ wr.ownsRow C 5 1 v (4 * k) (u8s ((SM.out st).take (4 * k))) ∧ Below C w wr) (fun _ i _ => (8 - intOf i).toNat)
      case atStart => exact ⟨0, by omega, rfl, ⟨rfl, .inl ⟨rfl, rfl⟩⟩, HBL6.out⟩
      case round =>
        clear HBL6
        obtain ⟨j, hj, rfl, hown, hb⟩ := hrel
        have HO := hid hown
        have HB := hid hb
        have hbs : C ≤ wr.heap.size := by have := hb.size; rw [HCC.out] at this; exact this
        clear hown hb
        by_cases hj8 : j < 8
        · have hx := HIX.out j hj8
          have hjd : decide ((j : Int) < 8) = true := decide_eq_true (by omega)
          have hstp := out_step st j hj8
          generalize hxx : (mstl st).getD j 0 = x at *
          have HSTP := hid hstp
          have hml : 4 * j + 4 ≤ maxLen := by unfold maxLen; omega
          clear hxx hstp
          go_wp2_with (at_builtin; refine wpList_append_own _ rfl _ _ 57 rfl C 5 i0 (.int .u8 0) 1 1 Tryd.underlying57 hi hz0 hz1 hz2 rfl (by decide) _ _ _ rfl (HO.out.alloc _) ⟨wr.heap.size, 0, none⟩ 4 4 [.int .u8 (UV x / 16777216 % 256), .int .u8 (UV x / 65536 % 256), .int .u8 (UV x / 256 % 256), .int .u8 (UV x % 256)] rfl rfl ?c1 ?c2 hml ?c4 ?c5 ?_)
          case c1 =>
            intro i v hv
            rw [Addr.add_mid, cell_at (alloc_at _ _), ← hv]
            match i with
            | 0 => rfl
            | 1 => rfl
            | 2 => rfl
            | 3 => rfl
            | i + 4 => simp
          case c2 => intro u hu; simp only [List.mem_cons, List.not_mem_nil, or_false] at hu; rcases hu with rfl | rfl | rfl | rfl <;> rfl
          case c4 => omega
          case c5 => simp; omega
          intro v' w7 hown' hgrow _
          have hb2 : Below C w w7 := (HB.out.alloc hbs _).grown hgrow (by simp; omega) (fun g hg => block_le HO.out hg)
          rw [← bytes4_vals, ← u8s_append, ← HSTP.out] at hown'
          have HO' := hid hown'
          have HB2 := hid hb2
          clear hown' hgrow hml hx hb2
          go_wp2_with fail
          go_roundw
          case rel => exact ⟨j + 1, by omega, by go_num, HO'.out, HB2.out⟩
          case measure => simp [intOf]; omega
        · have hj9 : j = 8 := by omega
          have hjd : decide ((j : Int) < 8) = false := decide_eq_false (by omega)
          have ho := HO.out
          rw [hj9, List.take_of_length_le (by rw [SM.out_length]; decide)] at ho
          obtain ⟨g, cp, rfl, _, _, hcell⟩ := owns_cell ho (by rw [SM.out_length]) (by decide)
          have hcv := conv_string wr g 0 32 cp (SM.out st) (SM.out_length st) (fun j hj => by rw [Nat.zero_add]; exact hcell j (by omega))
          rw [HSUM.out] at hcv
          have hk32 : 4 * 8 = 32 := rfl
          clear ho HO hcell hj9
          go_wp2_with fail
          go_ret
          exact ⟨rfl, by have := HB.out; rw [← HCC.out] at this; exact this⟩

end Go.Proofs.YtejkimhmpnogkaaDoor
