/- The walk of the document's digest. The walks of the digest's laws: alive; what the digest of a text is. Plain laws of rows of bytes: which is less, differences, sums with carries. The walks of the document's numbers: less, minus. The walks of the document's numbers: minus. A region that draws its order, in which just the first two operations may come either way: both ways. The walks of the document's numbers: Order, Of. The walks of the order's Same, Canonical, Clamp. -/
import Derived.Test.YtceljjnohjnepaaGreatDoorM16
import Derived.Test.YtceljjnohjnepaaGreatDoorM02
import Derived.Test.YtceljjnohjnepaaGreatDoorM13
import Derived.Deep.MidRow
import Derived.Deep.Cut
import Derived.Test.YtceljjnohjnepaaGreatDoorM01
import Derived.Test.YtceljjnohjnepaaGreatDoorM14
import Derived.Test.YtceljjnohjnepaaGreatDoorM04
namespace Go.Proofs.YtceljjnohjnepaaGreatDoor
open Go.RowKit

set_option maxRecDepth 100000 in
@[go_sem] theorem make64 (w : World) : (Instr.makeSlice 32 (.int .i64 64) (.int .i64 64)).run Tryz.prog w = .ok (.slice (some ⟨w.heap.size, 0, none⟩) 64 64) (w.alloc (.cells (brow (List.replicate 64 0)) 5)) := by kernel_rfl
set_option maxRecDepth 100000 in
theorem store8 (x : SH.St) (w : World) : (storeCells ⟨w.heap.size, 0, none⟩ (stv x).toList).run Tryz.prog (w.alloc (.cells #[.int .u64 0, .int .u64 0, .int .u64 0, .int .u64 0, .int .u64 0, .int .u64 0, .int .u64 0, .int .u64 0] 82)) = .ok () (w.alloc (.cells (stv x) 82)) :=
  store_cells_new w 82 _ (stv x) (by rw [info_A8]; rfl) rfl (wrow_one _)
set_option maxRecDepth 100000 in
theorem rblock_Y (h Y : SH.St) (bl : List UInt8) (bw off cap : Nat) (W : World) (hY : SH.block h bl = Y) (hb : bl.length = 128) (hcap : 128 ≤ cap)
    (hc : ∀ j, j < 128 → W.cell? ⟨bw, off + j, none⟩ = some (.int .u8 ((bl.getD j 0).toNat : Int))) :
    Calls Tryz.prog 58 #[.agg #[.int .u64 (UW h.a), .int .u64 (UW h.b), .int .u64 (UW h.c), .int .u64 (UW h.d), .int .u64 (UW h.e), .int .u64 (UW h.f), .int .u64 (UW h.g), .int .u64 (UW h.h)], .slice (some ⟨bw, off, none⟩) 128 cap] W
      fun e w' => e = .returned (.agg #[.int .u64 (UW Y.a), .int .u64 (UW Y.b), .int .u64 (UW Y.c), .int .u64 (UW Y.d), .int .u64 (UW Y.e), .int .u64 (UW Y.f), .int .u64 (UW Y.g), .int .u64 (UW Y.h)]) ∧ Below W.heap.size W w' := by
  subst hY; exact rblock_any h bl bw off cap W hb hcap hc

set_option maxRecDepth 100000 in
theorem put_get8 {A B : List UInt8} (h : A.length = B.length) {i : Nat} (hi : i < A.length) : (A.take i ++ B.drop i).getD i 0 = B.getD i 0 := by
  have : (A.take i).length = i := by rw [List.length_take]; omega
  simp [List.getElem?_append, this, List.getElem?_drop]
set_option maxRecDepth 100000 in
theorem put_step8 {A B : List UInt8} (h : A.length = B.length) {i : Nat} (hi : i < A.length) : (A.take i ++ B.drop i).set i (A.getD i 0) = A.take (i + 1) ++ B.drop (i + 1) := by
  have h1 : (A.take i).length = i := by rw [List.length_take]; omega
  rw [List.set_append_right _ _ (by omega), h1, Nat.sub_self, List.drop_eq_getElem_cons (by omega), List.set_cons_zero, List.take_succ_eq_append_getElem hi, List.append_assoc]
  simp [hi]

set_option maxRecDepth 100000 in
set_option maxHeartbeats 4000000 in
theorem ROf_any (s : ByteArray) (W : World) (hs : s.size ≤ 1099511627776) :
    Calls Tryz.prog 25 #[.string s] W fun e w' => e = .returned (.string ⟨(SH.sha s.data.toList).toArray⟩) ∧ Below W.heap.size W w' := by
  obtain ⟨i0, hi, hz0, hz1, hz2⟩ := info_parts info_u8
  have hsl : s.data.toList.length = s.size := by simp
  have hcat : (s ++ ⟨#[128]⟩).data.toList = s.data.toList ++ [128] := by rw [ByteArray.data_append]; simp
  have hcs : (s ++ ⟨#[128]⟩).size = s.size + 1 := by
    have h := congrArg List.length hcat
    rw [List.length_append, hsl] at h; exact h
  have hconv := OwnsB.conv W (s ++ ⟨#[128]⟩) (grownCap_le_maxLen _ _ _ _ (by rw [hcs]; unfold maxLen; omega))
  have hbw := bytesWorld_below W 5 (s ++ ⟨#[128]⟩)
  rw [hcat, hcs] at hconv
  have HCV := hid hconv
  have HBW := hid hbw
  clear hcat hcs hconv hbw
  go_enter Tryz.func25, Tryz.ntmps25
  go_wp2_with fail
  obtain ⟨L, hL⟩ : ∃ L, s.data.toList = L := ⟨_, rfl⟩
  have HLC := hid hL
  rw [hL] at hsl HCV
  obtain ⟨n, hn⟩ : ∃ n, s.size = n := ⟨_, rfl⟩
  rw [hn] at hs hsl
  have HNS := hid hn
  have HNL := hid hsl
  clear hL hn hsl
  go_loopg [3] (SH.zeros n + 1) (fun g v wr => ∃ z : Nat, z + g = SH.zeros n + 1 ∧ 0 < g ∧ OwnsB wr W.heap.size v (L ++ [128] ++ List.replicate z 0) ∧ Below W.heap.size W wr)
  case atStart => exact ⟨0, by omega, by omega, by rw [List.replicate_zero, List.append_nil]; exact HCV.out, HBW.out⟩
  case round =>
    clear HCV HBW
    obtain ⟨z, hz, hg, rO, rb⟩ := hrel
    have RB := hid rb
    obtain ⟨m, hm⟩ : ∃ m, n + 1 + z = m := ⟨_, rfl⟩
    have hll : (L ++ [128] ++ List.replicate z 0).length = m := by rw [List.length_append, List.length_append, HNL.out, List.length_replicate, ← hm]; rfl
    have hzz : SH.zeros n ≤ 127 := by unfold SH.zeros; omega
    obtain ⟨g, cp, hv, _⟩ := rO.cells (by rw [hll]; omega)
    rw [hll] at hv
    subst hv
    have RO := hid rO
    have HLL := hid hll
    clear rO rb hll
    by_cases hc : m % 128 = 112
    · have hd : (((m : Int) % 128) != 112) = false := by rw [bne_eq_false_iff_eq]; omega
      have hz5 : z = SH.zeros n := by unfold SH.zeros at hz hzz ⊢; omega
      have HZ5 := hid hz5
      have HM := hid hm
      clear hz5 hm hz hc
      go_wp2_with (refine wpList_append_B8 rfl _ 32 3 rfl W.heap.size i0 Tryz.underlying32 Tryz.underlying3 hi hz0 hz1 hz2 _ rfl _ RO.out ?ca ?cb ?_)
      case ca => rw [HLL.out, ← HM.out]; have := HZ5.out; omega
      case cb => exact RB.out.size
      intro v' w2 O2 hgr
      have B2 := hid (RB.out.grown hgr RB.out.size (fun g hg => OwnsB.block RO.out hg))
      rw [HZ5.out] at O2
      have O3 := hid O2
      clear O2 hgr RO RB hd HLL
      go_wp2_with fail
      have hns := HNS.out
      rw [hns]
      have hk8 : (0 : Nat) ≤ 8 := by omega
      obtain ⟨P8, hP8⟩ : ∃ P8, L ++ [128] ++ List.replicate (SH.zeros n) 0 ++ [0, 0, 0, 0, 0, 0, 0, 0] = P8 := ⟨_, rfl⟩
      have O8 := hid (show OwnsB w2 W.heap.size v' P8 by have h := O3.out; simpa [← hP8] using h)
      have HP8 := hid hP8
      have hz127 : SH.zeros n ≤ 127 := by unfold SH.zeros; omega
      have hl8 : P8.length ≤ 1099511627776 + 300 := by rw [← hP8]; simp [HNL.out]; omega
      have HLL8 := hid hl8
      clear hP8 hl8 hz127
      go_loopw [4, 3] (fun i v wr => ∃ k : Nat, k ≤ 8 ∧ i = .int .i64 (7 - (k : Int)) ∧ OwnsB wr W.heap.size v (P8 ++ (SH.bytes8 (8 * UInt64.ofNat n)).take k) ∧ Below W.heap.size W wr) (fun i _ _ => (intOf i + 1).toNat)
      case atStart => exact ⟨0, by omega, rfl, by rw [List.take_zero, List.append_nil]; exact O8.out, B2.out⟩
      case round =>
        clear O3 B2 O8
        obtain ⟨k, hk, rfl, rO, rb⟩ := hrel
        have RO := hid rO
        have RB := hid rb
        have hb8 : (SH.bytes8 (8 * UInt64.ofNat n)).length = 8 := rfl
        by_cases hlt : k < 8
        · obtain ⟨j, hj⟩ : ∃ j, 7 - k = j := ⟨_, rfl⟩
          have hj2 : (7 : Int) - (k : Int) = (j : Int) := by omega
          rw [hj2]
          have hd : decide ((j : Int) ≥ 0) = true := decide_eq_true (by omega)
          have hj0 : 0 ≤ (j : Int) := by omega
          have hj1 : (j : Int) ≤ 7 := by omega
          have hsh : 8 * j < 64 := by omega
          have htk : (SH.bytes8 (8 * UInt64.ofNat n)).take (k + 1) = (SH.bytes8 (8 * UInt64.ofNat n)).take k ++ [(SH.bytes8 (8 * UInt64.ofNat n)).getD k 0] := by
            rw [List.take_succ_eq_append_getElem (by rw [hb8]; exact hlt)]; simp [hb8, hlt]
          have e2 : UW (8 * UInt64.ofNat n) = 8 * (n : Int) := by
            unfold UW
            rw [UInt64.toNat_mul, UInt64.toNat_ofNat', show (8 : UInt64).toNat = 8 from rfl, Nat.mod_eq_of_lt (a := n) (b := 2 ^ 64) (by omega), Nat.mod_eq_of_lt (by omega)]
            omega
          have hc : 8 * (n : Int) / (2 : Int) ^ (8 * j) % 256 = ((((SH.bytes8 (8 * UInt64.ofNat n)).getD k 0).toNat : Nat) : Int) := by
            rw [bytes8_getD _ _ hlt, byte_of _ _ (by omega), e2, show 56 - 8 * k = 8 * j by omega]
          generalize (SH.bytes8 (8 * UInt64.ofNat n)).getD k 0 = c at *
          have hlen : (P8 ++ (SH.bytes8 (8 * UInt64.ofNat n)).take k).length ≤ 1099511627776 + 310 := by have := HLL8.out; rw [List.length_append, List.length_take, hb8]; omega
          have HLEN := hid hlen
          have HTK := hid htk
          obtain ⟨hj3, HJ⟩ := And.intro hj2 (hid hj)
          clear htk rO rb hb8 e2 hlen hj hj3 hk8
          have hO2 := OwnsB.keep RO.out (below_new (w := wr) (.cells #[.int .u8 (8 * (n : Int) / (2 : Int) ^ (8 * j) % 256)] 5))
          have hsrc : Src Tryz.prog 1 32 (.slice (some ⟨wr.heap.size, 0, none⟩) 1 1) 1 (u8s [c]) (wr.alloc (.cells #[.int .u8 (8 * (n : Int) / (2 : Int) ^ (8 * j) % 256)] 5)) := by
            rw [hc]
            exact Src.ofSlice _ Tryz.underlying32 ⟨wr.heap.size, 0, none⟩ 1 1 (u8s [c]) rfl (cell_one_new _ _ _) (by intro u hu; simp [u8s] at hu; subst hu; rfl)
          have HO2 := hid hO2
          have HSRC := hid hsrc
          clear hO2 hsrc hc hj2
          go_wp2_with (at_builtin; refine wpList_append_B rfl _ _ 32 32 rfl W.heap.size i0 Tryz.underlying32 hi hz0 hz1 hz2 _ _ rfl rfl _ [c] HO2.out HSRC.out (Nat.succ_pos 0) ?cc ?cd ?_)
          case cc => have := HLEN.out; simp only [List.length_cons, List.length_nil]; omega
          case cd => have := RB.out.size; simp; omega
          intro v' w2 O2 hgr
          have B2 := hid ((below_alloc RB.out _).grown hgr (by have := RB.out.size; simp; omega) (fun g hg => OwnsB.block RO.out hg))
          have O3 := hid O2
          clear O2 hgr
          go_wp2_with fail
          refine ⟨?_, ?_⟩
          · exact ⟨k + 1, by omega, by (have := HJ.out; congr 1; omega), by rw [HTK.out]; first | exact O3.out | (rw [← List.append_assoc]; exact O3.out), B2.out⟩
          · have := HJ.out
            simp [intOf]; try omega
        · have hk5 : k = 8 := by omega
          have hd : decide ((7 : Int) - (k : Int) ≥ 0) = false := decide_eq_false (by omega)
          have hP : P8 ++ (SH.bytes8 (8 * UInt64.ofNat n)).take k = SH.pad L := by
            rw [hk5, List.take_of_length_le (by rw [hb8]; exact Nat.le_refl _), ← HP8.out]
            unfold SH.pad; rw [HNL.out]; rfl
          have hpl := SH.pad_length L
          have hpm : (SH.pad L).length ≤ 1099511627776 + 400 := by rw [← hP, List.length_append, List.length_take, hb8]; have := HLL8.out; omega
          have hp0 : 0 < (SH.pad L).length := by unfold SH.pad; simp; omega
          rw [hP] at rO
          have hsha : SH.out (SH.run (SH.pad L) ((SH.pad L).length / 128)) = SH.sha L := rfl
          generalize SH.pad L = Pd at *
          have HSHA := hid hsha
          obtain ⟨g2, cp2, rfl, hg2, hgl, hcap, hcm, hcell⟩ := rO.cells hp0
          have HCE := hid hcell
          have hst8 := store8 SH.init
          have hsz8 : (stv SH.init).size = 8 := rfl
          have hk77 : (7 : Int) - (k : Int) = -1 := by omega
          rw [hk77] at hd ⊢
          clear rO rb RO hcell hP hsha hk5 hlt hk hb8 hk77
          go_wp2_with fail
          refine (rfirst_any _).mono ?_
          rintro e w2 ⟨rfl, hb2⟩
          have C2 := hid (fun j (hj : j < Pd.length) => (hb2.cell (p := ⟨g2, j, none⟩) hgl).trans (HCE.out j hj))
          have B2 := hid (below_to RB.out hb2)
          have hg3 : g2 < w2.heap.size := Nat.lt_of_lt_of_le hgl hb2.size
          have hW2 : W.heap.size ≤ w2.heap.size := B2.out.size
          clear hb2
          go_wp2_with fail
          obtain ⟨q, hq⟩ : ∃ q, Pd.length = 128 * q := ⟨Pd.length / 128, by omega⟩
          obtain ⟨NH, hNH⟩ : ∃ NH, w2.heap.size = NH := ⟨_, rfl⟩
          rw [hNH] at hg3 hW2 ⊢
          have HQ := hid hq
          clear hq
          have hNHl : NH < (w2.alloc (.cells (stv SH.init) 82)).heap.size := by rw [← hNH]; simp
          have fH := hid (alloc_at' hNH.symm (.cells (stv SH.init) 82))
          have C3 := hid (fun j (hj : j < Pd.length) => keepA (.cells (stv SH.init) 82) (C2.out j hj))
          have B3 := hid (below_alloc B2.out (.cells (stv SH.init) 82))
          clear hNH C2 B2 hst8 hsz8 HCE RB hgl hg2 hd
          generalize w2.alloc (.cells (stv SH.init) 82) = w3 at *
          go_loopw [6] (fun i wr => ∃ k : Nat, k ≤ q ∧ i = .int .i64 ((128 * k : Nat) : Int) ∧ wr.heap[NH]? = some (.cells (stv (SH.run Pd k)) 82 (0, 0)) ∧ (∀ j, j < Pd.length → wr.cell? ⟨g2, j, none⟩ = some (.int .u8 ((Pd.getD j 0).toNat : Int))) ∧ Below W.heap.size W wr) (fun i _ => (Pd.length - intOf i).toNat)
          case atStart => exact ⟨0, by omega, rfl, fH.out, C3.out, B3.out⟩
          case round =>
            clear fH C3 B3
            obtain ⟨k, hk, rfl, rH, rC, rb⟩ := hrel
            have RH := hid rH
            have RC := hid rC
            have RB := hid rb
            have hq := HQ.out
            by_cases hlt : k < q
            · have hd : decide (((128 * k : Nat) : Int) < (Pd.length : Int)) = true := decide_eq_true (by omega)
              have hdn : decide (128 * k < Pd.length) = true := decide_eq_true (by omega)
              obtain ⟨c0, c1, c2, c3, c4, c5, c6, c7⟩ := oct_cells rH
              have hY : ∃ Y, SH.block (SH.run Pd k) ((Pd.drop (128 * k)).take 128) = Y := ⟨_, rfl⟩
              obtain ⟨Y, hY⟩ := hY
              have hrun : SH.run Pd (k + 1) = Y := by rw [← hY]; rfl
              have hbl : ((Pd.drop (128 * k)).take 128).length = 128 := by rw [List.length_take, List.length_drop]; omega
              have hcall := fun w (hc : ∀ j, j < 128 → w.cell? ⟨g2, 128 * k + j, none⟩ = some (.int .u8 ((((Pd.drop (128 * k)).take 128).getD j 0).toNat : Int))) => rblock_Y (SH.run Pd k) Y _ g2 (128 * k) (cp2 - 128 * k) w hY hbl (by omega) hc
              have hget : ∀ j, j < 128 → ((Pd.drop (128 * k)).take 128).getD j 0 = Pd.getD (128 * k + j) 0 := fun j hj => by
                simp [hj, List.getElem?_drop]
              have HCALL := hid hcall
              have HRUN := hid hrun
              have HGET := hid hget
              have hf := free_at rH
              have hq1 : 128 * k + 128 ≤ Pd.length := by omega
              have hq2 : 128 * k + 128 ≤ cp2 := by omega
              have HK := hid hcm
              generalize hK : 128 * k = K at *
              have HKK := hid hK
              generalize SH.run Pd k = st at *
              clear rH rC rb hY hrun hbl hcall hget hK hq
              have hsum : IntKind.i64.wrap ((K : Int) + 128) = (K : Int) + 128 := IntWalk.i64_in _ (by unfold maxLen at hcm; omega)
              have hK0 : 0 ≤ (K : Int) := by omega
              have hK1 : (K : Int) + 128 ≤ (cp2 : Int) := by omega
              have hK2 : (K : Int) ≤ (K : Int) + 128 := by omega
              have hK3 : ((K : Int) + 128).toNat = K + 128 := by omega
              have hK4 : ¬ cp2 = K := by omega
              go_wp2_with fail
              refine still_tail 6 (by kernel_rfl) (by kernel_rfl) ?_
              simp only [List.take_succ_cons, List.take_zero, List.drop_succ_cons, List.drop_zero]
              repeat (first | (refine wpStill_step (fun K hK => ?_); go_simp; refine hK _ ?_; clear hK K; try go_ints))
              refine wpStill_nil ?_
              go_wp2_with fail
              refine (HCALL.out _ (fun j hj => by rw [HGET.out j hj]; exact RC.out (K + j) (by omega))).mono ?_
              rintro e w4 ⟨rfl, hb4⟩
              have H4 : w4.heap[NH]? = some (.cells (stv st) 82 (0, 0)) := keepB hb4 (show (wr.drew).heap[NH]? = _ from RH.out)
              have hg2l : ∀ j, j < Pd.length → w4.cell? ⟨g2, j, none⟩ = some (.int .u8 ((Pd.getD j 0).toNat : Int)) := fun j hj => (hb4.cell (p := ⟨g2, j, none⟩) (show g2 < wr.drew.heap.size from World.block_lt_of_cell? wr _ (RC.out j hj))).trans (RC.out j hj)
              have B4 := hid (below_to (show Below W.heap.size W wr.drew from RB.out.drew) hb4)
              have C4 := hid hg2l
              obtain ⟨d0, d1, d2, d3, d4, d5, d6, d7⟩ := oct_cells H4
              have hf4 := free_at H4
              have H4' := hid H4
              clear H4 hb4 hg2l c0 c1 c2 c3 c4 c5 c6 c7 hf
              go_wp2_with fail
              rw [set8 H4'.out]
              have lH := lt_blk H4'.out
              have hgne : g2 ≠ NH := by omega
              refine ⟨?_, ?_⟩
              · refine ⟨k + 1, by omega, by (have := HKK.out; congr 1; omega), by rw [HRUN.out]; exact blk_heap lH, fun j hj => ?_, below_blk' B4.out hW2 _⟩
                rw [World.cell?_of_block (w := w4) (blk_other g2 hgne)]
                exact C4.out j hj
              · have := HKK.out
                have := HQ.out
                simp [intOf]; omega
            · have hkq : k = q := by omega
              have hd : decide (((128 * k : Nat) : Int) < (Pd.length : Int)) = false := decide_eq_false (by omega)
              have hdn : decide (128 * k < Pd.length) = false := decide_eq_false (by omega)
              have hd3 : decide (128 * (k : Int) < (Pd.length : Int)) = false := decide_eq_false (by omega)
              have hqq : Pd.length / 128 = k := by omega
              clear hq
              have hs2 := HSHA.out
              rw [hqq] at hs2
              generalize SH.run Pd k = st at *
              have HS2 := hid hs2
              have RX := hid rH
              clear rH rC rb RH RC hs2 hqq hkq
              go_wp2_with fail
              obtain ⟨NO, hNO⟩ : ∃ NO, wr.heap.size = NO := ⟨_, rfl⟩
              have fO := hid (alloc_at' hNO.symm (.cells (brow (List.replicate 64 0)) 5))
              have fX := hid (alloc_old (o' := .cells (brow (List.replicate 64 0)) 5) RX.out)
              have fB := hid (below_alloc RB.out (.cells (brow (List.replicate 64 0)) 5))
              have hNX : NH < NO := by rw [← hNO]; exact lt_blk RX.out
              have hNW : W.heap.size ≤ NO := by rw [← hNO]; exact RB.out.size
              have hrep : wr.alloc (.cells (brow (List.replicate 64 0)) 5) = wr.alloc (.cells (brow (List.replicate 64 0)) 5) := rfl
              rw [hNO]
              clear hNO RX RB hd hdn hlt hk hrep
              go_loopw [8] (fun i wr => ∃ k : Nat, k ≤ 64 ∧ i = .int .i64 (k : Int) ∧ wr.heap[NO]? = some (.cells (brow ((SH.out st).take k ++ (List.replicate 64 0).drop k)) 5 (0, 0)) ∧ wr.heap[NH]? = some (.cells (stv st) 82 (0, 0)) ∧ Below W.heap.size W wr) (fun i _ => (64 - intOf i).toNat)
              case atStart => exact ⟨0, by omega, rfl, fO.out, fX.out, fB.out⟩
              case round =>
                clear fO fX fB
                obtain ⟨k, hk, rfl, rO, rX, rb⟩ := hrel
                have RX := hid rX
                have RB := hid rb
                have hl1 : (SH.out st).length = (List.replicate 64 (0 : UInt8)).length := rfl
                have RO := hid rO
                by_cases hlt : k < 64
                · have hd : decide ((k : Int) < 64) = true := decide_eq_true (by omega)
                  have hk0 : 0 ≤ (k : Int) := by omega
                  have hk1 : (k : Int) < 64 := by omega
                  have cx := wrow_cell rX (j := k / 8) (by show k / 8 < 8; omega)
                  have co := brow_cell rO (j := k) (by rw [put_len hl1, out_len]; exact hlt)
                  have hf := free_at rO
                  have hd0 : 0 ≤ (k : Int) / 8 := by omega
                  have hd1 : (k : Int) / 8 < 8 := by omega
                  have hd2 : ((k : Int) / 8).toNat = k / 8 := by omega
                  have hs := put_step8 hl1 (i := k) (by rw [out_len]; exact hlt)
                  have hg := out_getD st (k / 8) (k % 8) (by omega) (by omega)
                  rw [show 8 * (k / 8) + k % 8 = k by omega, bytes8_getD _ _ (by omega)] at hg
                  have hc := byte_of ((stl st).getD (k / 8) 0) (56 - 8 * (k % 8)) (by omega)
                  rw [← hg] at hc
                  have hsub : (56 : Int) - (k : Int) % 8 * 8 = ((56 - 8 * (k % 8) : Nat) : Int) := by omega
                  have hsh : 56 - 8 * (k % 8) < 64 := by omega
                  have hm0 : 0 ≤ (k : Int) % 8 := by omega
                  have hm1 : (k : Int) % 8 < 8 := by omega
                  generalize (SH.out st).getD k 0 = c at *
                  generalize (stl st).getD (k / 8) 0 = x at *
                  have HSS := hid hs
                  have HC := hid hc
                  clear rO rX rb hl1 hs hc hg
                  go_wp2_with fail
                  rw [← HC.out]
                  refine ⟨⟨k + 1, by omega, by go_num, ?_, at_setCell_other RX.out (by show NH ≠ NO; omega) _, RB.out.setCell (by show W.heap.size ≤ NO; exact hNW) _⟩, by simp [intOf]; omega⟩
                  rw [← HSS.out]
                  exact brow_store RO.out _ _
                · have hk5 : k = 64 := by omega
                  have hd : decide ((k : Int) < 64) = false := decide_eq_false (by omega)
                  have he : (SH.out st).take k ++ (List.replicate 64 0).drop k = SH.out st := by
                    rw [hk5, List.take_of_length_le (by rw [out_len]; exact Nat.le_refl _), List.drop_eq_nil_of_le (by rw [List.length_replicate]; exact Nat.le_refl _), List.append_nil]
                  rw [he] at rO
                  have hcv := conv_string wr NO 0 64 64 (SH.out st) (out_len st) (fun j hj => by rw [Nat.zero_add]; exact brow_cell rO (by rw [out_len]; exact hj))
                  rw [HS2.out] at hcv
                  clear rO rX rb RO RX he hk5
                  go_wp2_with fail
                  go_ret
                  exact ⟨by rw [HLC.out]; rfl, RB.out⟩
    · have hd : (((m : Int) % 128) != 112) = true := by rw [bne_iff_ne]; omega
      have hzlt : z < SH.zeros n := by
        rcases Nat.lt_or_ge z (SH.zeros n) with h | h
        · exact h
        · exact absurd (show m % 128 = 112 by unfold SH.zeros at *; omega) hc
      have HZ := hid hz
      have HM := hid hm
      clear hm hc hz
      have hO2 := OwnsB.keep RO.out (below_new (w := wr) (.cells #[.int .u8 (0 : Int)] 5))
      have hsrc : Src Tryz.prog 1 32 (.slice (some ⟨wr.heap.size, 0, none⟩) 1 1) 1 (u8s [0]) (wr.alloc (.cells #[.int .u8 (0 : Int)] 5)) :=
        Src.ofSlice _ Tryz.underlying32 ⟨wr.heap.size, 0, none⟩ 1 1 (u8s [0]) rfl (cell_one_new _ _ _) (by intro u hu; simp [u8s] at hu; subst hu; rfl)
      have HO2 := hid hO2
      have HSRC := hid hsrc
      clear hO2 hsrc
      go_wp2_with (at_builtin; refine wpList_append_B rfl _ _ 32 32 rfl W.heap.size i0 Tryz.underlying32 hi hz0 hz1 hz2 _ _ rfl rfl _ [0] HO2.out HSRC.out (by decide) ?ca ?cb ?_)
      case ca => rw [HLL.out, ← HM.out]; simp only [List.length_cons, List.length_nil]; omega
      case cb => have := RB.out.size; simp; omega
      intro v' w2 O2 hgr
      have B2 := hid ((below_alloc RB.out _).grown hgr (by have := RB.out.size; simp; omega) (fun g hg => OwnsB.block RO.out hg))
      have O3 := hid O2
      clear O2 hgr
      go_wp2_with fail
      go_roundg (gk - 1)
      case measure => omega
      case rel => exact ⟨z + 1, by have := HZ.out; omega, by have := HZ.out; omega, by rw [List.replicate_succ', ← List.append_assoc]; have h := O3.out; simpa using h, B2.out⟩

end Go.Proofs.YtceljjnohjnepaaGreatDoor

namespace Go.Proofs.YtceljjnohjnepaaGreatDoor
open Go.RowKit

set_option maxRecDepth 100000 in
theorem sha_e : SH.sha (cat []) = [207, 131, 225, 53, 126, 239, 184, 189, 241, 84, 40, 80, 214, 109, 128, 7, 214, 32, 228, 5, 11, 87, 21, 220, 131, 244, 169, 33, 211, 108, 233, 206, 71, 208, 209, 60, 93, 133, 242, 176, 255, 131, 24, 210, 135, 126, 236, 47, 99, 185, 49, 189, 71, 65, 122, 129, 165, 56, 50, 122, 249, 39, 218, 62] := by decide +kernel
set_option maxRecDepth 100000 in
theorem sha_a : SH.sha (cat [⟨#[97]⟩, ⟨#[98, 99]⟩]) = [221, 175, 53, 161, 147, 97, 122, 186, 204, 65, 115, 73, 174, 32, 65, 49, 18, 230, 250, 78, 137, 169, 126, 162, 10, 158, 238, 230, 75, 85, 211, 154, 33, 146, 153, 42, 39, 79, 193, 168, 54, 186, 60, 35, 163, 254, 235, 189, 69, 77, 68, 35, 100, 60, 232, 14, 42, 154, 201, 79, 165, 76, 164, 159] := by decide +kernel
/-- The table of the rounds stands where it was laid. -/
def Tab (w : World) : Prop := ∃ TG fg, w.heap[0]? = some (.cells (wrow SH.K) TG fg)
set_option maxRecDepth 100000 in
theorem Tab.keep {w w' : World} (h : Tab w) (hb : Below w.heap.size w w') : Tab w' := by
  obtain ⟨T, f, h⟩ := h; exact ⟨T, f, keepB hb h⟩
set_option maxRecDepth 100000 in
theorem Tab.alloc {w : World} (h : Tab w) (o : Obj) : Tab (w.alloc o) := h.keep (below_new o)

end Go.Proofs.YtceljjnohjnepaaGreatDoor

namespace Go.Proofs.YtceljjnohjnepaaGreatDoor
namespace DG
variable {B : Nat}

set_option maxRecDepth 100000 in
theorem oless_at {a b : List Nat} (ha : All B a) (_hb : All B b) (hl : a.length = b.length) {k : Nat} (hk : k < a.length) (hd : a.drop (k + 1) = b.drop (k + 1)) (hlt : a.getD k 0 < b.getD k 0) : val B a < val B b := by
  rw [val_split a k hk, val_split b k (by omega), hd]
  have h1 := val_take_lt ha (k := k) (by omega)
  have h2 : B ^ k * (a.getD k 0 + B * val B (b.drop (k + 1)) + 1) ≤ B ^ k * (b.getD k 0 + B * val B (b.drop (k + 1))) := Nat.mul_le_mul_left _ (by omega)
  rw [Nat.mul_add, Nat.mul_one] at h2
  omega
set_option maxRecDepth 100000 in
theorem oless_iff {a b : List Nat} (ha : All B a) (hb : All B b) (hl : a.length = b.length) {k : Nat} (hk : k < a.length) (hd : a.drop (k + 1) = b.drop (k + 1)) (hne : a.getD k 0 ≠ b.getD k 0) :
    decide (a.getD k 0 < b.getD k 0) = decide (val B a < val B b) := by
  rcases Nat.lt_or_gt_of_ne hne with h | h
  · rw [decide_eq_true h, decide_eq_true (oless_at ha hb hl hk hd h)]
  · have := oless_at hb ha hl.symm (by omega) hd.symm h
    rw [decide_eq_false (by omega), decide_eq_false (by omega)]
set_option maxRecDepth 100000 in
theorem odrop_step {a b : List Nat} {k : Nat} (hk : k < a.length) (hl : a.length = b.length) (hd : a.drop (k + 1) = b.drop (k + 1)) (he : a.getD k 0 = b.getD k 0) : a.drop k = b.drop k := by
  rw [List.drop_eq_getElem_cons hk, List.drop_eq_getElem_cons (by omega : k < b.length), hd]
  rw [getD_at hk, getD_at (by omega)] at he
  rw [he]

end DG
end Go.Proofs.YtceljjnohjnepaaGreatDoor

namespace Go.Proofs.YtceljjnohjnepaaGreatDoor
open Go.RowKit DG

set_option maxRecDepth 100000 in
theorem oref_less (a b : List Nat) (W : World) (ha : All 256 a) (hb : All 256 b) (hal : a.length = 32) (hbl : b.length = 32) :
    Calls Tryz.prog 54 #[.agg (ints .u8 a), .agg (ints .u8 b)] W fun e w' => e = .returned (.bool (decide (val 256 a < val 256 b))) ∧ Below W.heap.size W w' := by
  have hsa : (ints .u8 a).size = 32 := by rw [ints_size, hal]
  have hsb : (ints .u8 b).size = 32 := by rw [ints_size, hbl]
  go_enter Tryz.func54, Tryz.ntmps54
  go_wp2_with fail
  obtain ⟨N, hN⟩ : ∃ N, N = W.heap.size := ⟨_, rfl⟩
  rw [← hN]
  have HN := hid hN
  go_loopw [5] (fun i wr => ∃ k : Nat, k ≤ 32 ∧ i = .int .i64 ((k : Int) - 1) ∧ a.drop k = b.drop k ∧ wr.heap[N]? = some (.cells (ints .u8 a) 44 (0, 0)) ∧ wr.heap[N + 1]? = some (.cells (ints .u8 b) 44 (0, 0)) ∧ Below W.heap.size W wr) (fun i _ => (intOf i + 1).toNat)
  case atStart =>
    refine ⟨32, by omega, rfl, by rw [List.drop_of_length_le (by omega), List.drop_of_length_le (by omega)], alloc_old (alloc_at' hN _), alloc_at' (by simp [hN]) _, below_alloc (below_new _) _⟩
  case round =>
    obtain ⟨k, hk, rfl, hd, rA, rB, rb⟩ := hrel
    have HD := hid hd
    have RBE := hid rb
    have HAL := hid hal
    have HBL := hid hbl
    clear hd rb hN
    match k with
    | 0 =>
      have hkd : decide ((0 : Int) - 1 ≥ 0) = false := decide_eq_false (by omega)
      go_wp2_with fail
      refine bodyPost_ret (v := .bool false) (by simp [results, Tryz.results54, go_sem]) rfl ⟨?_, RBE.out⟩
      rw [show a = b from by simpa using HD.out]
      simp
    | m + 1 =>
      have he : ((m + 1 : Nat) : Int) - 1 = (m : Int) := by omega
      rw [he]
      have hkd : decide ((m : Int) ≥ 0) = true := decide_eq_true (by omega)
      have hm : m < 32 := by omega
      have hi0 : 0 ≤ (m : Int) := by omega
      have hi1 : (m : Int) < 32 := by omega
      have ca := ints_cell rA (j := m) (by omega)
      have cb := ints_cell rB (j := m) (by omega)
      have hx := ha.getD (j := m) (by omega)
      have hy := hb.getD (j := m) (by omega)
      have RA := hid rA
      have RB := hid rB
      clear rA rB
      generalize hxa : a.getD m 0 = x at *
      generalize hyb : b.getD m 0 = y at *
      have HX := hid hxa
      have HY := hid hyb
      clear hxa hyb hal hbl hsa hsb
      go_wp2_with fail
      go_quiet (fail)
      by_cases hxy : x = y
      · have hne : (((x : Int) != (y : Int))) = false := by simp [hxy]
        go_wp2_with fail
        exact ⟨⟨m, by omega, rfl, odrop_step (by have := HAL.out; omega) (HAL.out.trans HBL.out.symm) HD.out (by rw [HX.out, HY.out, hxy]), RA.out, RB.out, RBE.out.trans (Dr.below ⟨_, rfl⟩)⟩, by simp [intOf]⟩
      · have hne : (((x : Int) != (y : Int))) = true := by simp [bne_iff_ne]; omega
        go_wp2_with fail
        go_quiet (fail)
        go_wp2_with fail
        refine bodyPost_ret (v := .bool (decide (x < y))) (by simp [results, Tryz.results54, go_sem]) rfl ⟨?_, ?_⟩
        · have := oless_iff ha hb (HAL.out.trans HBL.out.symm) (k := m) (by have := HAL.out; omega) HD.out (by rw [HX.out, HY.out]; exact hxy)
          rw [HX.out, HY.out] at this
          rw [this]
        · exact RBE.out.trans ((Dr.below ⟨_, rfl⟩).trans (Dr.below ⟨_, rfl⟩))


end Go.Proofs.YtceljjnohjnepaaGreatDoor

namespace Go.Proofs.YtceljjnohjnepaaGreatDoor
open Go.RowKit DG

set_option maxRecDepth 100000 in
theorem info_RNum : (Tryz.prog.info? 44).map (·.size) = some 32 := by kernel_rfl
set_option maxRecDepth 100000 in
theorem row_range {w : World} {b : Nat} {k : IntKind} {l : List Nat} {T : TypeId} {fz : Nat × Nat} (h : w.heap[b]? = some (.cells (ints k l) T fz)) : w.rangeAt b 0 (l.map fun (x : Nat) => Value.int k (x : Int)) := fun j v hv => by
  rw [Nat.zero_add, cell_at h]
  simpa [ints] using hv
set_option maxRecDepth 100000 in
theorem load_num {w : World} {b : Nat} {l : List Nat} {T : TypeId} {fz : Nat × Nat} (hl : l.length = 32) (h : w.heap[b]? = some (.cells (ints .u8 l) T fz)) :
    (Instr.loadAt 44 (.pointer (some ⟨b, 0, none⟩))).run Tryz.prog w = .ok (.agg (ints .u8 l)) w :=
  run_loadAt_mid w b 0 44 _ _ (row_range h) Tryz.underlying44 rfl (by rw [info_RNum]; simp [hl])
set_option maxRecDepth 100000 in
theorem setCells_blk (vs : List Value) : ∀ (w : World) (b : Nat) (pre old post : List Value) (T : TypeId) (fz : Nat × Nat), w.heap[b]? = some (.cells (pre ++ old ++ post).toArray T fz) → old.length = vs.length →
    w.setCells b pre.length vs = blk w b (.cells (pre ++ vs ++ post).toArray T fz) := by
  induction vs with
  | nil =>
    intro w b pre old post T fz h hl
    have : old = [] := List.length_eq_zero_iff.1 hl
    subst this
    exact (blk_self h).symm
  | cons v vs ih =>
    intro w b pre old post T fz h hl
    match old, hl with
    | o :: old, hl =>
      have h1 := at_setCell h pre.length v
      have e : ((pre ++ (o :: old) ++ post).toArray.setIfInBounds pre.length v) = ((pre ++ [v]) ++ old ++ post).toArray := by
        rw [List.setIfInBounds_toArray]; simp
      rw [e] at h1
      have h2 := ih (w.setCell ⟨b, pre.length, none⟩ v) b (pre ++ [v]) old post T fz h1 (by simpa using hl)
      rw [List.length_append, List.length_singleton] at h2
      rw [World.setCells, h2, setCell_blk h, blk_blk]
      simp
set_option maxRecDepth 100000 in
theorem there_row {w : World} {b n : Nat} {c : Array Value} {T : TypeId} (h : w.heap[b]? = some (.cells c T (0, 0))) (hn : n ≤ c.size) : w.there b 0 n := fun j hj => by
  rw [Nat.zero_add, cell_at h, free_at h]
  simp; omega
set_option maxRecDepth 100000 in
theorem store_num {w : World} {b : Nat} {l : List Nat} {c : Array Value} {T : TypeId} (hl : l.length = 32) (h : w.heap[b]? = some (.cells c T (0, 0))) (hc : c.size = 32) :
    (Instr.storeAt 44 (.pointer (some ⟨b, 0, none⟩)) (.agg (ints .u8 l))).run Tryz.prog w = .ok () (blk w b (.cells (ints .u8 l) T (0, 0))) := by
  have h1 := run_storeAt_mid (P := Tryz.prog) w b 0 44 (ints .u8 l) (there_row h (by rw [ints_size]; omega)) (by rw [info_RNum, ints_size, hl]) (by
    rw [Array.all_eq_true_iff_forall_mem]
    intro v hv
    simp only [ints, List.mem_toArray, List.mem_map] at hv
    obtain ⟨x, _, rfl⟩ := hv
    rfl)
  rw [h1]
  have h2 := setCells_blk (ints .u8 l).toList w b [] c.toList [] T (0, 0) (by simpa using h) (by simp [ints_size, hl, hc])
  simp only [List.length_nil, List.nil_append, List.append_nil] at h2
  rw [h2]

set_option maxRecDepth 100000 in
theorem ints_one (l : List Nat) : (ints .u8 l).all (·.oneCell') = true := by
  rw [Array.all_eq_true_iff_forall_mem]
  intro v hv
  simp only [ints, List.mem_toArray, List.mem_map] at hv
  obtain ⟨x, _, rfl⟩ := hv
  rfl
section
variable {ops : Array Oper} {rest : List Oper} {op : Oper} {a : Act} {w : World} {Q : Exit → Act → World → Prop}
set_option maxRecDepth 100000 in
theorem wp_load_num (hgd : op.guard = none) (x : Operand) (ho : op.op = .load 44 x) {b : Nat} (hx : a.eval x = .pointer (some ⟨b, 0, none⟩)) {l : List Nat} {T : TypeId} {fz : Nat × Nat}
    (hl : l.length = 32) (h : w.heap[b]? = some (.cells (ints .u8 l) T fz)) (k : wpList Tryz.prog ops Q rest (a.put op.dst (.agg (ints .u8 l))) w) : wpList Tryz.prog ops Q (op :: rest) a w :=
  wpList_load_mid hgd 44 x ho b 0 hx _ _ (row_range h) Tryz.underlying44 rfl (by rw [info_RNum]; simp [hl]) k
set_option maxRecDepth 100000 in
theorem wp_store_num (hgd : op.guard = none) (x y : Operand) (ho : op.op = .store 44 x y) {b : Nat} (hx : a.eval x = .pointer (some ⟨b, 0, none⟩)) {l : List Nat} {c : Array Value} {T : TypeId} (hy : a.eval y = .agg (ints .u8 l))
    (hl : l.length = 32) (h : w.heap[b]? = some (.cells c T (0, 0))) (hc : c.size = 32) (k : wpList Tryz.prog ops Q rest (a.put op.dst undef) (blk w b (.cells (ints .u8 l) T (0, 0)))) : wpList Tryz.prog ops Q (op :: rest) a w := by
  refine wpList_store_mid hgd 44 x y ho b 0 (ints .u8 l) hx hy (there_row h (by rw [ints_size]; omega)) (by rw [info_RNum, ints_size, hl]) (ints_one l) ?_
  have h2 := setCells_blk (ints .u8 l).toList w b [] c.toList [] T (0, 0) (by simpa using h) (by simp [ints_size, hl, hc])
  simp only [List.length_nil, List.nil_append, List.append_nil] at h2
  rw [h2]
  exact k
end

set_option maxRecDepth 100000 in
theorem oref_minus (a b : List Nat) (W : World) (ha : All 256 a) (hb : All 256 b) (hal : a.length = 32) (hbl : b.length = 32) (hle : val 256 b ≤ val 256 a) :
    Calls Tryz.prog 56 #[.agg (ints .u8 a), .agg (ints .u8 b)] W fun e w' => e = .returned (.agg (ints .u8 (digs 256 (val 256 a - val 256 b) 32))) ∧ Below W.heap.size W w' := by
  have hsa : (ints .u8 a).size = 32 := by rw [ints_size, hal]
  have hsb : (ints .u8 b).size = 32 := by rw [ints_size, hbl]
  go_enter Tryz.func56, Tryz.ntmps56
  go_wp2_with fail
  obtain ⟨N, hN⟩ : ∃ N, N = W.heap.size := ⟨_, rfl⟩
  rw [← hN]
  have HN := hid hN
  have hz : #[.int .u8 0, .int .u8 0, .int .u8 0, .int .u8 0, .int .u8 0, .int .u8 0, .int .u8 0, .int .u8 0, .int .u8 0, .int .u8 0, .int .u8 0, .int .u8 0, .int .u8 0, .int .u8 0, .int .u8 0, .int .u8 0, .int .u8 0, .int .u8 0, .int .u8 0, .int .u8 0, .int .u8 0, .int .u8 0, .int .u8 0, .int .u8 0, .int .u8 0, .int .u8 0, .int .u8 0, .int .u8 0, .int .u8 0, .int .u8 0, .int .u8 0, .int .u8 0] = ints .u8 (List.replicate 32 0) := rfl
  rw [hz]
  have HAL := hid hal
  have HBL := hid hbl
  go_loopw [5, 6] (fun cy i wr => ∃ (k r : Nat) (c : List Nat), k ≤ 32 ∧ i = .int .i64 (k : Int) ∧ cy = .int .i64 (r : Int) ∧ r ≤ 1 ∧ c.length = 32 ∧ All 256 c ∧ val 256 c + val 256 (b.take k) = val 256 a + r * 256 ^ k ∧
    wr.heap[N]? = some (.cells (ints .u8 c) 44 (0, 0)) ∧ wr.heap[N + 1]? = some (.cells (ints .u8 b) 44 (0, 0)) ∧ wr.heap[N + 1 + 1]? = some (.cells (ints .u8 (List.replicate 32 0)) 44 (0, 0)) ∧ Below W.heap.size W wr) (fun _ i _ => (32 - intOf i).toNat)
  case atStart =>
    refine ⟨0, 0, a, by omega, rfl, rfl, by omega, hal, ha, by simp [val], alloc_old (alloc_old (alloc_at' hN _)), alloc_old (alloc_at' (by simp [hN]) _), alloc_at' (by simp [hN]) _, below_alloc (below_alloc (below_new _) _) _⟩
  case round =>
    clear hN hz
    obtain ⟨k, r, c, hk, rfl, rfl, hr, hcl, hca, hv, rA, rB, rZ, rb⟩ := hrel
    have HV := hid hv
    have RBE := hid rb
    have RZ := hid rZ
    have HCL := hid hcl
    clear hv rb rZ
    by_cases hk32 : k < 32
    · have hkd : decide ((k : Int) < 32) = true := decide_eq_true (by omega)
      have hi0 : 0 ≤ (k : Int) := by omega
      have hi1 : (k : Int) < 32 := by omega
      have cc := ints_cell rA (j := k) (by omega)
      have cb := ints_cell rB (j := k) (by omega)
      have hx := hca.getD (j := k) (by omega)
      have hy := hb.getD (j := k) (by omega)
      have hfa := free_at rA
      have RA := hid rA
      have RB := hid rB
      clear rA rB
      generalize hxa : c.getD k 0 = x at *
      generalize hyb : b.getD k 0 = y at *
      have HX := hid hxa
      have HY := hid hyb
      clear hxa hyb hal hbl hsa hsb hcl
      obtain ⟨X, hX⟩ : ∃ X : Nat, (256 + (x : Int) - (y : Int) - (r : Int)) = (X : Int) := ⟨256 + x - y - r, by omega⟩
      have hX2 : X < 512 := by omega
      have HXX := hid hX
      clear hX
      go_wp2_with fail
      go_quiet (fail)
      rw [HXX.out]
      go_wp2_with fail
      have hr' : ∃ r' : Nat, r' ≤ 1 ∧ (1 - (X : Int) / 256) = (r' : Int) ∧ X % 256 + y + r = x + r' * 256 := by
        have := HXX.out
        exact ⟨1 - X / 256, by omega, by omega, by omega⟩
      obtain ⟨r', hr1, hr2, hr3⟩ := hr'
      have hst := minus_step (B := 256) (c := c) (b := b) (k := k) (x := X % 256) (by rw [HCL.out]; omega) HV.out (by rw [HBL.out]; omega) (by rw [HX.out, HY.out]; exact hr3)
      have hXm : ((X : Int) % 256) = ((X % 256 : Nat) : Int) := by omega
      refine ⟨⟨k + 1, r', c.set k (X % 256), by omega, by go_num, by rw [hr2], hr1, by simp [HCL.out], All.set hca _ (by omega), hst, ?_, at_setCell_other RB.out (by simp) _, at_setCell_other RZ.out (by simp; omega) _, (RBE.out.setCell (by have := HN.out; simp; omega) _).trans (Dr.below ⟨_, rfl⟩)⟩, by simp [intOf]; omega⟩
      rw [hXm]
      exact ints_store RA.out _ _
    · have hkd : decide ((k : Int) < 32) = false := decide_eq_false (by omega)
      go_upto_region 8 with (fail)
      refine wp_region_list ?_
      refine wp_load_num (by rfl) _ (by rfl) (by rfl) HCL.out rA ?_
      refine wp_store_num (by rfl) _ _ (by rfl) (by rfl) (by rfl) HCL.out RZ.out (by simp [ints_size]) ?_
      have RN := hid (blk_heap (o := .cells (ints .u8 c) 44 (0, 0)) (lt_blk RZ.out))
      have hNle : W.heap.size ≤ N + 1 + 1 := by have := HN.out; omega
      go_wp2_with fail
      refine bodyPost_ret (v := .agg (ints .u8 c)) (results_cell_row Tryz.results56 _ _ (N + 1 + 1) _ _ _ _ (by rfl) RN.out Tryz.underlying44 rfl (by rw [info_RNum, ints_size, hcl])) rfl ⟨?_, below_blk' RBE.out hNle _⟩
      have hk5 : k = 32 := by omega
      have hv := HV.out
      rw [hk5, List.take_of_length_le (by omega)] at hv
      rw [minus_end hca hcl hle (by have := val_lt ha; rwa [hal] at this) hv hb hbl]

end Go.Proofs.YtceljjnohjnepaaGreatDoor

namespace Go.Proofs.YtceljjnohjnepaaGreatDoor
open Go Go.RowKit
variable {P : Program} {Q : Exit → Act → World → Prop} {a : Act} {w : World}
set_option maxRecDepth 100000 in
theorem wp_region_two {id : Nat} {o0 o1 : Oper} {l : List Oper} (hm : P.follows .mixedOrders = true)
    (hr : Region.ready .any (o0 :: o1 :: l).toArray (Array.replicate (l.length + 2) false) = [0, 1])
    (hs1 : Region.seqB .any (o0 :: o1 :: l).toArray (l.length + 1) 1 ((Array.replicate (l.length + 2) false).setIfInBounds 0 true) = true)
    (hr2 : Region.ready .any (o0 :: o1 :: l).toArray ((Array.replicate (l.length + 2) false).setIfInBounds 1 true) = [0])
    (hs2 : Region.seqB .any (o0 :: o1 :: l).toArray l.length 2 (((Array.replicate (l.length + 2) false).setIfInBounds 1 true).setIfInBounds 0 true) = true)
    (h1 : wpList P (o0 :: o1 :: l).toArray Q (o0 :: o1 :: l) a w.drew) (h2 : wpList P (o0 :: o1 :: l).toArray Q (o1 :: o0 :: l) a w.drew) : (Code.region id (o0 :: o1 :: l).toArray true).wp P Q a w := by
  refine wp_region_any hm ?_
  show wpAny P .any (o0 :: o1 :: l).toArray Q (l.length + 1 + 1) (Array.replicate (l.length + 2) false) a w.drew
  refine ⟨fun h0 => (by rw [hr] at h0; cases h0), fun i hi => ?_⟩
  rw [hr] at hi
  have hi' : i = 0 ∨ i = 1 := by simpa using hi
  rcases hi' with rfl | rfl
  · have hw : wpOp P (o0 :: o1 :: l).toArray Q 0 (wpList P (o0 :: o1 :: l).toArray Q (o1 :: l)) a w.drew := by unfold wpOp; exact h1
    exact wpOp_mono (fun a' w' h' => wpAny_of_seq (o1 :: l) 1 _ a' w' (fun j => by simp [Nat.add_comm 1 j]) hs1 h') hw
  · have hw : wpOp P (o0 :: o1 :: l).toArray Q 1 (wpList P (o0 :: o1 :: l).toArray Q (o0 :: l)) a w.drew := by unfold wpOp; exact h2
    refine wpOp_mono (fun a' w' h' => ?_) hw
    refine ⟨fun h0 => (by rw [hr2] at h0; cases h0), fun i hi => ?_⟩
    rw [hr2] at hi
    have hi' : i = 0 := by simpa using hi
    subst hi'
    have hw2 : wpOp P (o0 :: o1 :: l).toArray Q 0 (wpList P (o0 :: o1 :: l).toArray Q l) a' w' := by unfold wpOp; exact h'
    exact wpOp_mono (fun a' w' h' => wpAny_of_seq l 2 _ a' w' (fun j => by simp [Nat.add_comm 2 j]) hs2 h') hw2
end Go.Proofs.YtceljjnohjnepaaGreatDoor

namespace Go.Proofs.YtceljjnohjnepaaGreatDoor
open Go.RowKit DG

section
variable {ops : Array Oper} {rest : List Oper} {op : Oper} {a : Act} {w : World} {Q : Exit → Act → World → Prop}
set_option maxRecDepth 100000 in
theorem owp_build (hgd : op.guard = none) (t : TypeId) (parts : Array (Nat × Operand)) (ho : op.op = .build t parts) (cells : Array Value) (h : Tryz.prog.built t (parts.map fun (i, x) => (i, a.eval x)).toList = some cells)
    (k : wpList Tryz.prog ops Q rest (a.put op.dst (.agg cells)) w) : wpList Tryz.prog ops Q (op :: rest) a w :=
  wpList_plain hgd fun _ hK => by
    unfold Oper.wp execOp
    simp only [ho, Sem.run_bind, Sem.run_pure, Result.andThen_ok, run_build w t _ cells h]
    exact hK _ _ k
end

set_option maxRecDepth 100000 in
theorem ordL_row : digs 256 ordL 32 = [237, 211, 245, 92, 26, 99, 18, 88, 214, 156, 247, 162, 222, 249, 222, 20, 0, 0, 0, 0, 0, 0, 0, 0, 0, 0, 0, 0, 0, 0, 0, 16] := by decide +kernel

set_option maxRecDepth 100000 in
theorem ref_Order (W : World) : Calls Tryz.prog 55 #[] W fun e w' => e = .returned (.agg (ints .u8 (digs 256 ordL 32))) ∧ Below W.heap.size W w' := by
  rw [ordL_row]
  go_enter Tryz.func55, Tryz.ntmps55
  go_upto_region 1 with (fail)
  refine wp_region_list ?_
  refine owp_build (by rfl) _ _ (by rfl) (ints .u8 [237, 211, 245, 92, 26, 99, 18, 88, 214, 156, 247, 162, 222, 249, 222, 20, 0, 0, 0, 0, 0, 0, 0, 0, 0, 0, 0, 0, 0, 0, 0, 16]) (by kernel_rfl) ?_
  refine wp_store_num (by rfl) _ _ (by rfl) (by rfl) (by rfl) (by rfl) (alloc_at _ _) (by rfl) ?_
  have RN := hid (blk_heap (w := W.alloc (.cells (ints .u8 (List.replicate 32 0)) 44)) (b := W.heap.size) (o := .cells (ints .u8 [237, 211, 245, 92, 26, 99, 18, 88, 214, 156, 247, 162, 222, 249, 222, 20, 0, 0, 0, 0, 0, 0, 0, 0, 0, 0, 0, 0, 0, 0, 0, 16]) 44 (0, 0)) (lt_blk (alloc_at _ _)))
  go_wp2_with fail
  refine bodyPost_ret (v := .agg (ints .u8 [237, 211, 245, 92, 26, 99, 18, 88, 214, 156, 247, 162, 222, 249, 222, 20, 0, 0, 0, 0, 0, 0, 0, 0, 0, 0, 0, 0, 0, 0, 0, 16])) (results_cell_row Tryz.results55 _ _ (W.heap.size) _ _ _ _ (by rfl) RN.out Tryz.underlying44 rfl (by rw [info_RNum]; rfl)) rfl ⟨rfl, below_blk' (below_new _) (Nat.le_refl _) _⟩

set_option maxRecDepth 100000 in
/-- One digit of doubling. -/
theorem dbl_step {B : Nat} {c l : List Nat} {k cr cr' d bit : Nat} (hk : k < c.length) (hl : l.length = c.length) (hd : c.drop k = l.drop k)
    (h : val B c + cr * B ^ k = val B l + val B (l.take k) + bit) (hx : d + cr' * B = 2 * c.getD k 0 + cr) :
    val B (c.set k d) + cr' * B ^ (k + 1) = val B l + val B (l.take (k + 1)) + bit := by
  have h1 := val_set (B := B) hk d
  have hkl : k < l.length := by omega
  have he : c.getD k 0 = l.getD k 0 := by
    have := congrArg (fun (m : List Nat) => m.getD 0 0) hd
    simpa [List.getD_eq_getElem?_getD] using this
  have h2 : val B (l.take (k + 1)) = val B (l.take k) + l.getD k 0 * B ^ k := by
    rw [List.take_succ_eq_append_getElem hkl, val_append, List.length_take, Nat.min_eq_left (by omega), getD_at hkl]
    simp [val, Nat.mul_comm]
  have h3 : (d + cr' * B) * B ^ k = (2 * c.getD k 0 + cr) * B ^ k := by rw [hx]
  rw [Nat.add_mul, Nat.add_mul, Nat.mul_assoc, ← Nat.pow_succ', Nat.succ_eq_add_one, Nat.two_mul, Nat.add_mul] at h3
  rw [h2, ← he]
  omega
set_option maxRecDepth 100000 in
theorem dbl_end {c : List Nat} {cr m : Nat} (hc : All 256 c) (hn : c.length = 32) (hm : m < ordL) (b : Nat) (hb : b ≤ 1) (h : val 256 c + cr * 256 ^ 32 = m + m + b) : c = digs 256 (2 * m + b) 32 := by
  have hr : cr = 0 := by
    rcases Nat.eq_zero_or_pos cr with h0 | h0
    · exact h0
    · have h1 : 1 * 256 ^ 32 ≤ cr * 256 ^ 32 := Nat.mul_le_mul_right _ h0
      have h2 : 2 * ordL < 256 ^ 32 := by decide
      omega
  subst hr
  have hv : val 256 c = 2 * m + b := by omega
  rw [← hv, ← hn, digs_val hc]

set_option maxRecDepth 100000 in
theorem oand1_shr8 (x r : Nat) (hx : x < 256) : bits .and .u8 ((x : Int) / (2 : Int) ^ r) 1 = ((x / 2 ^ r % 2 : Nat) : Int) := by
  have e : ((x : Int) / (2 : Int) ^ r) = ((x / 2 ^ r : Nat) : Int) := by rw [Int.natCast_ediv, Int.natCast_pow]; rfl
  have hle : x / 2 ^ r ≤ x := Nat.div_le_self _ _
  rw [e, show (1 : Int) = ((1 : Nat) : Int) from rfl, u8_and_nat _ _ (by omega) (by decide), nat_mask1]
set_option maxRecDepth 100000 in
theorem obit_of_bytes (l : List UInt8) (m : Nat) (h : m < 8 * l.length) : bytesNat l / 2 ^ m % 2 = (l.getD (m / 8) 0).toNat / 2 ^ (m % 8) % 2 := by
  have := bit_digit (w := 8) (l := l.map (·.toNat)) (bytes_all l) m (by decide) (by simpa using h)
  unfold bytesNat
  rw [show (256 : Nat) = 2 ^ 8 from rfl, this]
  have hj : m / 8 < l.length := by omega
  simp [hj]
set_option maxRecDepth 100000 in
theorem dbl_byte (x c : Nat) (_hx : x < 256) (hc : c ≤ 1) : bits .or .u8 ((x : Int) * 2 % 256) (c : Int) = (((2 * x + c) % 256 : Nat) : Int) := by
  rw [show ((x : Int) * 2 % 256) = ((2 * x % 256 : Nat) : Int) by omega, u8_or_nat _ _ (by omega) (by omega), nat_join 1 _ _ (by omega) (by omega)]
  omega

set_option maxRecDepth 100000 in
theorem drop_set_succ {c l : List Nat} {k d : Nat} (h : c.drop k = l.drop k) : (c.set k d).drop (k + 1) = l.drop (k + 1) := by
  have h2 : c.drop (k + 1) = l.drop (k + 1) := by rw [← List.drop_drop, ← List.drop_drop, h]
  rw [List.drop_set, if_pos (by omega), h2]
set_option maxRecDepth 100000 in
theorem range_below {w w' : World} {b : Nat} {cs : List Value} (h : w.rangeAt b 0 cs) (hb : b < w.heap.size) (hB : Below w.heap.size w w') : w'.rangeAt b 0 cs := fun j v hv => (hB.cell (p := ⟨b, 0 + j, none⟩) hb).trans (h j v hv)

set_option maxRecDepth 100000 in
theorem keepS {W1 w1 w2 : World} {b : Nat} {cs : List Value} (h : w1.rangeAt b 0 cs) (hB : Below W1.heap.size W1 w1) (hlt : b < W1.heap.size) (hb : Below w1.heap.size w1 w2) : w2.rangeAt b 0 cs ∧ Below W1.heap.size W1 w2 :=
  ⟨range_below h (Nat.lt_of_lt_of_le hlt hB.size) hb, below_to hB hb⟩

set_option maxRecDepth 100000 in
set_option maxHeartbeats 1000000 in
theorem oref_Of (s : ByteArray) (W : World) (hmax : 8 * s.size ≤ 9223372036854775807) :
    Calls Tryz.prog 24 #[.string s] W fun e w' => e = .returned (.agg (ints .u8 (digs 256 (bytesNat s.data.toList % ordL) 32))) ∧ Below W.heap.size W w' := by
  obtain ⟨n0, hn0⟩ : ∃ n0, bytesNat s.data.toList = n0 := ⟨_, rfl⟩
  rw [hn0]
  have HN0 := hid hn0
  clear hn0
  go_enter Tryz.func24, Tryz.ntmps24
  go_wp2_with fail
  obtain ⟨N, hN⟩ : ∃ N, N = W.heap.size := ⟨_, rfl⟩
  rw [← hN]
  have HN := hid hN
  have hz : #[.int .u8 0, .int .u8 0, .int .u8 0, .int .u8 0, .int .u8 0, .int .u8 0, .int .u8 0, .int .u8 0, .int .u8 0, .int .u8 0, .int .u8 0, .int .u8 0, .int .u8 0, .int .u8 0, .int .u8 0, .int .u8 0, .int .u8 0, .int .u8 0, .int .u8 0, .int .u8 0, .int .u8 0, .int .u8 0, .int .u8 0, .int .u8 0, .int .u8 0, .int .u8 0, .int .u8 0, .int .u8 0, .int .u8 0, .int .u8 0, .int .u8 0, .int .u8 0] = ints .u8 (List.replicate 32 0) := rfl
  rw [hz]
  go_loopw [4] (fun i wr => ∃ k : Nat, k ≤ 8 * s.size ∧ i = .int .i64 ((k : Int) - 1) ∧
    wr.heap[N + 1]? = some (.cells (ints .u8 (digs 256 (n0 / 2 ^ k % ordL) 32)) 44 (0, 0)) ∧ wr.heap[N]? = some (.cells (ints .u8 (List.replicate 32 0)) 44 (0, 0)) ∧ Below W.heap.size W wr) (fun i _ => (intOf i + 1).toNat)
  case atStart =>
    refine ⟨8 * s.size, Nat.le_refl _, by simp, ?_, alloc_old (alloc_at' hN _), below_alloc (below_new _) _⟩
    have hlt := bytesNat_lt s.data.toList
    rw [HN0.out, show s.data.toList.length = s.size from by simp, show (256 : Nat) = 2 ^ 8 from rfl, ← Nat.pow_mul] at hlt
    rw [Nat.div_eq_of_lt hlt, Nat.zero_mod]
    exact alloc_at' (by simp [hN]) _
  case round =>
    clear hN hz
    obtain ⟨k, hk, rfl, rR, rZ, rb⟩ := hrel
    have RZ := hid rZ
    have RBE := hid rb
    clear rZ rb
    match k with
    | 0 =>
      have hkd : decide (((0 : Nat) : Int) - 1 ≥ 0) = false := decide_eq_false (by omega)
      have hd0 : digs 256 (n0 / 2 ^ 0 % ordL) 32 = digs 256 (n0 % ordL) 32 := by rw [Nat.pow_zero, Nat.div_one]
      rw [hd0] at rR
      have hNle : W.heap.size ≤ N := by have := HN.out; omega
      go_upto_region 14 with (fail)
      refine wp_region_list ?_
      refine wp_load_num (l := digs 256 (n0 % ordL) 32) (by rfl) _ (by rfl) (by rfl) (by rw [digs_length]) (b := N + 1) (by exact rR) ?_
      refine wp_store_num (l := digs 256 (n0 % ordL) 32) (by rfl) _ _ (by rfl) (by rfl) (by rfl) (by rw [digs_length]) (by exact RZ.out) (by simp [ints_size]) ?_
      have RN := hid (blk_heap (o := .cells (ints .u8 (digs 256 (n0 % ordL) 32)) 44 (0, 0)) (lt_blk RZ.out))
      go_wp2_with fail
      exact bodyPost_ret (v := .agg (ints .u8 (digs 256 (n0 % ordL) 32))) (results_cell_row Tryz.results24 _ _ N _ _ _ _ (by rfl) RN.out Tryz.underlying44 rfl (by rw [info_RNum, ints_size, digs_length])) rfl ⟨rfl, below_blk' RBE.out hNle _⟩
    | m + 1 =>
      rw [show ((m + 1 : Nat) : Int) - 1 = (m : Int) from by omega]
      have hkd : decide ((m : Int) ≥ 0) = true := decide_eq_true (by omega)
      have RR := hid rR
      clear rR
      have hi0 : 0 ≤ (m : Int) / 8 := by omega
      have hi1 : (m : Int) / 8 < s.size := by omega
      have hi2 : ((m : Int) / 8).toNat = m / 8 := by omega
      have hml : m / 8 < s.size := by omega
      have hbit := obit_of_bytes s.data.toList m (by simp; omega)
      have hg : s.data.toList.getD (m / 8) 0 = s[m / 8] := by simp [hml]; rfl
      rw [HN0.out, hg] at hbit
      have hbyte := oand1_shr8 s[m / 8].toNat (m % 8) s[m / 8].toNat_lt
      rw [← hbit] at hbyte
      have HBYTE := hid hbyte
      clear hbit hg hbyte
      go_wp2_with fail
      rw [HBYTE.out]
      obtain ⟨bit, hbt⟩ : ∃ bit, n0 / 2 ^ m % 2 = bit := ⟨_, rfl⟩
      have hb1 : bit ≤ 1 := by omega
      rw [hbt]
      have HBT := hid hbt
      clear hbt HBYTE
      obtain ⟨l, hl⟩ : ∃ l, digs 256 (n0 / 2 ^ (m + 1) % ordL) 32 = l := ⟨_, rfl⟩
      have hvl := val_digs (B := 256) (n0 / 2 ^ (m + 1) % ordL) 32
      rw [Nat.mod_eq_of_lt (a := n0 / 2 ^ (m + 1) % ordL) (b := 256 ^ 32) (Nat.lt_trans (Nat.mod_lt _ (by decide)) (by decide)), hl] at hvl
      have hll : l.length = 32 := by rw [← hl, digs_length]
      have hla : All 256 l := by rw [← hl]; exact digs_all (by decide) _ _
      have rR := RR.out
      rw [hl] at rR
      have RR2 := hid rR
      have HVL := hid hvl
      have HLL := hid hll
      clear hl rR RR hvl hll
      go_loopw [6, 5] (fun i cy wq => ∃ (k cr : Nat) (c : List Nat), k ≤ 32 ∧ i = .int .i64 (k : Int) ∧ cy = .int .u8 (cr : Int) ∧ cr ≤ 1 ∧ c.length = 32 ∧ All 256 c ∧ c.drop k = l.drop k ∧ val 256 c + cr * 256 ^ k = val 256 l + val 256 (l.take k) + bit ∧
        wq.heap[N + 1]? = some (.cells (ints .u8 c) 44 (0, 0)) ∧ wq.heap[N]? = some (.cells (ints .u8 (List.replicate 32 0)) 44 (0, 0)) ∧ Below W.heap.size W wq) (fun i _ _ => (32 - intOf i).toNat)
      case atStart => exact ⟨0, bit, l, by omega, rfl, rfl, hb1, HLL.out, hla, rfl, by simp [val], RR2.out, RZ.out, RBE.out⟩
      case round =>
        obtain ⟨k, cr, c, hk, rfl, rfl, hcr, hcl, hca, hcd, hv, qR, qZ, qb⟩ := hrel
        have HV := hid hv
        have HCD := hid hcd
        have HCL := hid hcl
        have QZ := hid qZ
        have QBE := hid qb
        clear hv hcd qZ qb
        by_cases hk32 : k < 32
        · have hkd : decide ((k : Int) < 32) = true := decide_eq_true (by omega)
          have hj0 : 0 ≤ (k : Int) := by omega
          have hj1 : (k : Int) < 32 := by omega
          have cc := ints_cell qR (j := k) (by omega)
          have hx := hca.getD (j := k) (by omega)
          have hfa := free_at qR
          have QR := hid qR
          clear qR
          generalize hxa : c.getD k 0 = x at *
          have HX := hid hxa
          have hdb := dbl_byte x cr hx hcr
          have HDB := hid hdb
          clear hxa hcl hdb
          go_wp2_with fail
          rw [HDB.out]
          have hst := dbl_step (B := 256) (c := c) (l := l) (k := k) (cr := cr) (cr' := x / 128) (d := (2 * x + cr) % 256) (bit := bit) (by rw [HCL.out]; omega) (HLL.out.trans HCL.out.symm) HCD.out HV.out (by rw [HX.out]; omega)
          have hcx : ((x : Int) / 128) = ((x / 128 : Nat) : Int) := by omega
          rw [hcx]
          exact ⟨⟨k + 1, x / 128, c.set k ((2 * x + cr) % 256), by omega, by go_num, rfl, by omega, by simp [HCL.out], All.set hca _ (by omega), drop_set_succ HCD.out, hst, ints_store QR.out _ _, at_setCell_other QZ.out (by simp) _, QBE.out.setCell (by have := HN.out; simp; omega) _⟩, by simp [intOf]; omega⟩
        · have hkd : decide ((k : Int) < 32) = false := decide_eq_false (by omega)
          have hk5 : k = 32 := by omega
          have hv := HV.out
          rw [hk5, List.take_of_length_le (by rw [HLL.out]; omega), HVL.out] at hv
          have hce := dbl_end hca hcl (Nat.mod_lt _ (by decide)) bit hb1 hv
          have HCE := hid hce
          have QR := hid qR
          have hN1 : N + 1 < wr.heap.size := lt_blk qR
          have hrow := row_range qR
          have hi37 : (Tryz.prog.info? 44).map (·.size) = some (c.map fun (x : Nat) => Value.int .u8 (x : Int)).length := by rw [info_RNum]; simp [HCL.out]
          have hu37 := Tryz.underlying44
          have hl32 : (c.map fun (x : Nat) => Value.int .u8 (x : Int)).length = 32 := by simp [HCL.out]
          have hone : ∀ v ∈ (c.map fun (x : Nat) => Value.int .u8 (x : Int)), v.oneCell' = true := by
            intro v hv
            simp only [List.mem_map] at hv
            obtain ⟨x, _, rfl⟩ := hv
            rfl
          have hv2 : val 256 c = 2 * (n0 / 2 ^ (m + 1) % ordL) + bit := by
            rw [hce, val_digs]
            exact Nat.mod_eq_of_lt (by have h1 : n0 / 2 ^ (m + 1) % ordL < ordL := Nat.mod_lt _ (by decide)
                                       have h2 : 2 * ordL < 256 ^ 32 := by decide
                                       omega)
          clear hv hce hk5 qR
          go_wp2_with fail
          go_region_held3 (fun w' => w'.rangeAt (N + 1) 0 (c.map fun (x : Nat) => Value.int .u8 (x : Int)) ∧ Below wr.heap.size wr w') (first | exact ⟨by simpa using hrow, (Below.refl _ _).drew⟩ | (go_split_ands; exact keepS (by assumption) (by assumption) hN1 (by assumption)))
            (first | (go_at_call 55; refine (ref_Order _).mono ?_; rintro e w2 ⟨rfl, hb2⟩) | (go_at_call 54; refine (oref_less c _ _ hca (digs_all (by decide) _ _) (by exact HCL.out) (by rw [digs_length])).mono ?_; rintro e w3 ⟨rfl, hb3⟩))
          rename_i hH
          obtain ⟨_, hbw⟩ := hH
          clear hi37 hu37 hl32 hone hrow hb2 hb3
          have hvo : val 256 (digs 256 ordL 32) = ordL := by rw [val_digs]; decide
          rw [hvo]
          have q3 := (hbw.block _ hN1).trans QR.out
          have z3 := (hbw.block _ (lt_blk QZ.out)).trans QZ.out
          have be3 := below_to QBE.out hbw
          have hos := of_step n0 (m + 1) (by omega)
          rw [show m + 1 - 1 = m by omega, HBT.out] at hos
          have HOS := hid hos
          have Q3 := hid q3
          have Z3 := hid z3
          have BE3 := hid be3
          clear q3 z3 be3 hbw hos
          have hrl : n0 / 2 ^ (m + 1) % ordL < ordL := Nat.mod_lt _ (by decide)
          obtain ⟨R, hR⟩ : ∃ R, n0 / 2 ^ (m + 1) % ordL = R := ⟨_, rfl⟩
          rw [hR] at hrl hv2
          rw [hR]
          have HOS2 := HOS.out
          have HCE2 := HCE.out
          rw [hR] at HOS2 HCE2
          have HOS3 := hid HOS2
          have HCE3 := hid HCE2
          have HV2 := hid hv2
          clear HOS HOS2 HCE HCE2 hR hv2
          by_cases hlt : 2 * R + bit < ordL
          · have hd : (!decide (2 * R + bit < ordL)) = false := by simp [hlt]
            rw [hd]
            go_wp2_with fail
            refine ⟨⟨m, by omega, rfl, ?_, Z3.out, BE3.out⟩, by simp [intOf]⟩
            rw [← HOS3.out, Nat.mod_eq_of_lt hlt, ← HCE3.out]
            exact Q3.out
          · have hd : (!decide (2 * R + bit < ordL)) = true := by simp [hlt]
            rw [hd]
            go_wp2_with fail
            have hsum : n0 / 2 ^ m % ordL = val 256 c - val 256 (digs 256 ordL 32) := by
              rw [hvo, HV2.out, ← HOS3.out, Nat.mod_eq_sub_mod (by omega), Nat.mod_eq_of_lt (by omega)]
            have HSUM := hid hsum
            have hle : val 256 (digs 256 ordL 32) ≤ val 256 c := by rw [hvo, HV2.out]; omega
            have HLE := hid hle
            have HVO := hid hvo
            clear hsum hle hvo hlt hd
            refine wp_region_two (by rfl) (by kernel_rfl) (by kernel_rfl) (by kernel_rfl) (by kernel_rfl) ?_ ?_
            · refine wp_load_num (by rfl) _ (by rfl) (by rfl) HCL.out (b := N + 1) (by exact Q3.out) ?_
              go_wp2_with fail
              refine (ref_Order _).mono ?_
              rintro e w4 ⟨rfl, hb4⟩
              have q4 := (hb4.block (N + 1) (lt_blk Q3.out)).trans Q3.out
              have z4 := (hb4.block N (lt_blk Z3.out)).trans Z3.out
              have be4 := below_to BE3.out.drew hb4
              have Q4 := hid q4
              have Z4 := hid z4
              have BE4 := hid be4
              clear q4 z4 be4 hb4
              go_wp2_with fail
              refine (oref_minus c (digs 256 ordL 32) _ hca (digs_all (by decide) _ _) HCL.out (by rw [digs_length]) HLE.out).mono ?_
              rintro e w5 ⟨rfl, hb5⟩
              have q5 := (hb5.block (N + 1) (lt_blk Q4.out)).trans Q4.out
              have z5 := (hb5.block N (lt_blk Z4.out)).trans Z4.out
              have be5 := below_to BE4.out hb5
              have hNle : W.heap.size ≤ N + 1 := by have := HN.out; omega
              rename_i hK
              refine hK _ _ ?_
              refine wp_store_num (l := digs 256 (val 256 c - val 256 (digs 256 ordL 32)) 32) (by rfl) _ _ (by rfl) (by rfl) (by rfl) (by rw [digs_length]) (b := N + 1) (by exact q5) (by rw [ints_size, HCL.out]) ?_
              have q6 := blk_heap (o := .cells (ints .u8 (digs 256 (val 256 c - val 256 (digs 256 ordL 32)) 32)) 44 (0, 0)) (lt_blk q5)
              rw [← HSUM.out] at q6 ⊢
              have Q6 := hid q6
              have Z6 := hid ((blk_other (o := .cells (ints .u8 (digs 256 (n0 / 2 ^ m % ordL) 32)) 44 (0, 0)) (w := w5) (b := N + 1) N (by omega)).trans z5)
              have BE6 := hid (below_blk' be5 hNle (.cells (ints .u8 (digs 256 (n0 / 2 ^ m % ordL) 32)) 44 (0, 0)))
              clear q5 z5 be5 q6 hb5
              go_wp2_with fail
              exact ⟨⟨m, by omega, rfl, Q6.out, Z6.out, BE6.out⟩, by simp [intOf]⟩
            · go_wp2_with fail
              refine (ref_Order _).mono ?_
              rintro e w4 ⟨rfl, hb4⟩
              have q4 := (hb4.block (N + 1) (lt_blk Q3.out)).trans Q3.out
              have z4 := (hb4.block N (lt_blk Z3.out)).trans Z3.out
              have be4 := below_to BE3.out.drew hb4
              rename_i hK
              refine hK _ _ ?_
              refine wp_load_num (by rfl) _ (by rfl) (by rfl) HCL.out (b := N + 1) (by exact q4) ?_
              have Q4 := hid q4
              have Z4 := hid z4
              have BE4 := hid be4
              clear q4 z4 be4 hb4
              go_wp2_with fail
              refine (oref_minus c (digs 256 ordL 32) _ hca (digs_all (by decide) _ _) HCL.out (by rw [digs_length]) HLE.out).mono ?_
              rintro e w5 ⟨rfl, hb5⟩
              have q5 := (hb5.block (N + 1) (lt_blk Q4.out)).trans Q4.out
              have z5 := (hb5.block N (lt_blk Z4.out)).trans Z4.out
              have be5 := below_to BE4.out hb5
              have hNle : W.heap.size ≤ N + 1 := by have := HN.out; omega
              rename_i hK
              refine hK _ _ ?_
              refine wp_store_num (l := digs 256 (val 256 c - val 256 (digs 256 ordL 32)) 32) (by rfl) _ _ (by rfl) (by rfl) (by rfl) (by rw [digs_length]) (b := N + 1) (by exact q5) (by rw [ints_size, HCL.out]) ?_
              have q6 := blk_heap (o := .cells (ints .u8 (digs 256 (val 256 c - val 256 (digs 256 ordL 32)) 32)) 44 (0, 0)) (lt_blk q5)
              rw [← HSUM.out] at q6 ⊢
              have Q6 := hid q6
              have Z6 := hid ((blk_other (o := .cells (ints .u8 (digs 256 (n0 / 2 ^ m % ordL) 32)) 44 (0, 0)) (w := w5) (b := N + 1) N (by omega)).trans z5)
              have BE6 := hid (below_blk' be5 hNle (.cells (ints .u8 (digs 256 (n0 / 2 ^ m % ordL) 32)) 44 (0, 0)))
              clear q5 z5 be5 q6 hb5
              go_wp2_with fail
              exact ⟨⟨m, by omega, rfl, Q6.out, Z6.out, BE6.out⟩, by simp [intOf]⟩

end Go.Proofs.YtceljjnohjnepaaGreatDoor

namespace Go.Proofs.YtceljjnohjnepaaGreatDoor
open Go.RowKit DG

def eqB (a b : Nat) : Bool := decide (a = b)
def ocanB (s : ByteArray) : Bool := decide (s.size = 32 ∧ bytesNat s.data.toList < ordL)
set_option maxRecDepth 100000 in
theorem toList_data (s : ByteArray) : s.toList = s.data.toList := ByteArray.toList_eq s
set_option maxRecDepth 100000 in
theorem quad_list (n : Nat) (_h : n < 115792089237316195423570985008687907853269984665640564039457584007913129639936) :
    ∃ x0 x1 x2 x3 : Nat, quad n = #[.int .u64 (x0 : Int), .int .u64 (x1 : Int), .int .u64 (x2 : Int), .int .u64 (x3 : Int)] ∧ digs (2 ^ 64) n 4 = [x0, x1, x2, x3] := ⟨_, _, _, _, oquad_ints n, rfl⟩

set_option maxRecDepth 100000 in
theorem digs_eq {a b : Nat} (ha : a < 115792089237316195423570985008687907853269984665640564039457584007913129639936) (hb : b < 115792089237316195423570985008687907853269984665640564039457584007913129639936) :
    digs (2 ^ 64) a 4 = digs (2 ^ 64) b 4 ↔ a = b := by
  constructor
  · intro h
    have h1 := val_digs (B := 2 ^ 64) a 4
    have h2 := val_digs (B := 2 ^ 64) b 4
    rw [h] at h1
    rw [Nat.mod_eq_of_lt (a := a) (b := (2 ^ 64) ^ 4) (by omega)] at h1
    rw [Nat.mod_eq_of_lt (a := b) (b := (2 ^ 64) ^ 4) (by omega)] at h2
    omega
  · rintro rfl; rfl

set_option maxRecDepth 100000 in
theorem ordL_lt (n : Nat) : n % ordL < 115792089237316195423570985008687907853269984665640564039457584007913129639936 := Nat.lt_trans (Nat.mod_lt _ (by decide)) (by decide)

set_option maxRecDepth 100000 in
set_option maxHeartbeats 400000 in
theorem Canonical_any (s : ByteArray) (W : World) (hmax : s.size ≤ 9223372036854775807) :
    Calls Tryz.prog 30 #[.string s] W fun e w' => e = .returned (.bool (ocanB s)) ∧ Below W.heap.size W w' := by
  by_cases h32 : s.size = 32
  · obtain ⟨a0, a1, a2, a3, hqq, _⟩ := quad_list _ (ordL_lt (bytesNat s.data.toList))
    have hcan : (natBytes (bytesNat s.data.toList % ordL) 32 == s.toList) = ocanB s := by
      unfold ocanB
      rw [toList_data, Bool.eq_iff_iff, beq_iff_eq, decide_eq_true_eq]
      have hl : s.data.toList.length = 32 := by simpa using h32
      have hlt := bytesNat_lt s.data.toList
      rw [hl] at hlt
      constructor
      · intro h
        have h1 := bytesNat_natBytes (bytesNat s.data.toList % ordL) 32
        rw [h, Nat.mod_eq_of_lt (a := bytesNat s.data.toList % ordL) (b := 256 ^ 32) (Nat.lt_trans (Nat.mod_lt _ (by decide)) (by decide))] at h1
        exact ⟨h32, by rw [h1]; exact Nat.mod_lt _ (by decide)⟩
      · rintro ⟨_, h⟩
        rw [Nat.mod_eq_of_lt h]
        have := natBytes_bytesNat s.data.toList
        rwa [hl] at this
    have HC := hid hcan
    have H32 := hid h32
    have HQ := hid hqq
    clear hcan h32 hqq
    go_enter Tryz.func30, Tryz.ntmps30
    go_wp2_with fail
    refine (oOf_32 s _ H32.out).mono ?_
    rintro e w1 ⟨rfl, hb1⟩
    rw [HQ.out]
    go_wp2_with fail
    rw [← HQ.out]
    refine (Bytes_any _ _ (ordL_lt _)).mono ?_
    rintro e w2 ⟨rfl, hb2⟩
    have hb3 := below_to (below_alloc hb1 _) hb2
    clear hb1 hb2
    go_wp2_with fail
    go_ret
    exact ⟨congrArg (fun b => Ending.returned (.bool b)) HC.out, hb3⟩
  · have hcan : ocanB s = false := by unfold ocanB; exact decide_eq_false (fun h => h32 h.1)
    by_cases h64 : s.size = 64
    · obtain ⟨a0, a1, a2, a3, hqq, _⟩ := quad_list _ (ordL_lt (bytesNat s.data.toList))
      have hne : (natBytes (bytesNat s.data.toList % ordL) 32 == s.toList) = false := by
        rw [beq_eq_false_iff_ne]
        intro h
        have := congrArg List.length h
        rw [natBytes_length, toList_data] at this
        simp at this
        omega
      rw [hcan]
      have HC := hid hne
      have H64 := hid h64
      have HQ := hid hqq
      clear hcan h32 h64 hqq hne
      go_enter Tryz.func30, Tryz.ntmps30
      go_wp2_with fail
      refine (Of_64 s _ H64.out).mono ?_
      rintro e w1 ⟨rfl, hb1⟩
      rw [HQ.out]
      go_wp2_with fail
      rw [← HQ.out]
      refine (Bytes_any _ _ (ordL_lt _)).mono ?_
      rintro e w2 ⟨rfl, hb2⟩
      have hb3 := below_to (below_alloc hb1 _) hb2
      clear hb1 hb2
      go_wp2_with fail
      go_ret
      exact ⟨congrArg (fun b => Ending.returned (.bool b)) HC.out, hb3⟩
    · rw [hcan]
      clear hcan
      have H32 := hid h32
      have H64 := hid h64
      clear h32 h64
      go_enter Tryz.func30, Tryz.ntmps30
      go_wp2_with fail
      refine (oOf_no s _ H32.out H64.out hmax).mono ?_
      rintro e w1 ⟨rfl, hb1⟩
      rw [quad_zero]
      have hb3 := below_alloc hb1 (.cells #[.int .u64 0, .int .u64 0, .int .u64 0, .int .u64 0] 37)
      clear hb1
      go_wp2_with fail
      go_ret
      exact ⟨rfl, hb3⟩

end Go.Proofs.YtceljjnohjnepaaGreatDoor
