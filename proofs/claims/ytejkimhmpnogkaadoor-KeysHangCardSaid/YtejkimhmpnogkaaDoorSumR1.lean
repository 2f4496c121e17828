/- The walk of the document's digest (SHA-256). -/
import Derived.Test.YtejkimhmpnogkaaDoorSumW7
import Derived.Test.YtejkimhmpnogkaaDoorBAP
namespace Go.Proofs.YtejkimhmpnogkaaDoor
open Go.RowKit

@[go_sem] theorem make32 (w : World) : (Instr.makeSlice 57 (.int .i64 32) (.int .i64 32)).run Tryd.prog w = .ok (.slice (some ⟨w.heap.size, 0, none⟩) 32 32) (w.alloc (.cells (brow (List.replicate 32 0)) 5)) := by kernel_rfl
theorem store8L (w : World) : (storeCells ⟨w.heap.size, 0, none⟩ (wrow F5).toList).run Tryd.prog (w.alloc (.cells #[.int .u64 0, .int .u64 0, .int .u64 0, .int .u64 0, .int .u64 0, .int .u64 0, .int .u64 0, .int .u64 0] 60)) = .ok () (w.alloc (.cells (wrow F5) 60)) :=
  store_cells_new w 60 _ (wrow F5) (by rw [info_A8L]; rfl) rfl (wrow_one _)
theorem rblock_Y (h Y : SM.St) (bl : List UInt8) (bw off cap : Nat) (W : World) (hY : SM.block h bl = Y) (hb : bl.length = 64) (hcap : 64 ≤ cap)
    (hc : ∀ j, j < 64 → W.cell? ⟨bw, off + j, none⟩ = some (.int .u8 ((bl.getD j 0).toNat : Int))) :
    Calls Tryd.prog 39 #[.agg #[.int .u32 (UV h.a), .int .u32 (UV h.b), .int .u32 (UV h.c), .int .u32 (UV h.d), .int .u32 (UV h.e), .int .u32 (UV h.f), .int .u32 (UV h.g), .int .u32 (UV h.h)], .slice (some ⟨bw, off, none⟩) 64 cap] W
      fun e w' => e = .returned (.agg #[.int .u32 (UV Y.a), .int .u32 (UV Y.b), .int .u32 (UV Y.c), .int .u32 (UV Y.d), .int .u32 (UV Y.e), .int .u32 (UV Y.f), .int .u32 (UV Y.g), .int .u32 (UV Y.h)]) ∧ Below W.heap.size W w' := by
  subst hY; exact rblock_any h bl bw off cap W hb hcap hc
theorem mbytes4_getD (x : UInt32) (j : Nat) (h : j < 4) : (SM.bytes4 x).getD j 0 = (x >>> UInt32.ofNat (24 - 8 * j)).toUInt8 := by
  match j, h with
  | 0, _ => rfl
  | 1, _ => rfl
  | 2, _ => rfl
  | 3, _ => rfl
theorem mout_getD (st : SM.St) (k j : Nat) (hk : k < 8) (hj : j < 4) : (SM.out st).getD (4 * k + j) 0 = (SM.bytes4 ((mstl st).getD k 0)).getD j 0 := by
  have hk' : k = 0 ∨ k = 1 ∨ k = 2 ∨ k = 3 ∨ k = 4 ∨ k = 5 ∨ k = 6 ∨ k = 7 := by omega
  have hj' : j = 0 ∨ j = 1 ∨ j = 2 ∨ j = 3 := by omega
  rcases hk' with rfl | rfl | rfl | rfl | rfl | rfl | rfl | rfl <;> rcases hj' with rfl | rfl | rfl | rfl <;> rfl
theorem keepA {w : World} {p : Addr} {v : Value} (o : Obj) (h : w.cell? p = some v) : (w.alloc o).cell? p = some v := by rw [World.cell?_alloc_some _ _ _ (by rw [h]; rfl)]; exact h
theorem put_len8 {A B : List UInt8} (h : A.length = B.length) (i : Nat) : (A.take i ++ B.drop i).length = A.length := by
  rw [List.length_append, List.length_take, List.length_drop]; omega

set_option maxRecDepth 100000 in
set_option maxHeartbeats 4000000 in
theorem ROf_any (s : ByteArray) (W : World) (hs : s.size ≤ 1099511627776) :
    Calls Tryd.prog 16 #[.string s] W fun e w' => e = .returned (.string ⟨(SM.sum s.data.toList).toArray⟩) ∧ Below W.heap.size W w' := by
  obtain ⟨i0, hi, hz0, hz1, hz2⟩ := info_parts info_u8
  have hsl : s.data.toList.length = s.size := by simp
  have hcat : (s ++ ⟨#[128]⟩).data.toList = s.data.toList ++ [128] := by rw [ByteArray.data_append]; simp
  have hcs : (s ++ ⟨#[128]⟩).size = s.size + 1 := by
    have h := congrArg List.length hcat
    rw [List.length_append, hsl] at h; exact h
  have hconv := OwnsB.conv W (s ++ ⟨#[128]⟩) (grownCap_le_maxLen _ _ _ _ (by rw [hcs]; unfold maxLen; omega))
  have hbw := bytesWorld_below W 5 (s ++ ⟨#[128]⟩)
  rw [hcat, hcs] at hconv
  have HCV := hid hconv
  have HBW := hid hbw
  clear hcat hcs hconv hbw
  go_enter Tryd.func16, Tryd.ntmps16
  go_wp2_with fail
  obtain ⟨L, hL⟩ : ∃ L, s.data.toList = L := ⟨_, rfl⟩
  have HLC := hid hL
  rw [hL] at hsl HCV
  obtain ⟨n, hn⟩ : ∃ n, s.size = n := ⟨_, rfl⟩
  rw [hn] at hs hsl
  have HNS := hid hn
  have HNL := hid hsl
  clear hL hn hsl
  go_loopg [3] (SM.zeros n + 1) (fun g v wr => ∃ z : Nat, z + g = SM.zeros n + 1 ∧ 0 < g ∧ OwnsB wr W.heap.size v (L ++ [128] ++ List.replicate z 0) ∧ Below W.heap.size W wr)
  case atStart => exact ⟨0, by omega, by omega, by rw [List.replicate_zero, List.append_nil]; exact HCV.out, HBW.out⟩
  case round =>
    clear HCV HBW
    obtain ⟨z, hz, hg, rO, rb⟩ := hrel
    have RB := hid rb
    obtain ⟨m, hm⟩ : ∃ m, n + 1 + z = m := ⟨_, rfl⟩
    have hll : (L ++ [128] ++ List.replicate z 0).length = m := by rw [List.length_append, List.length_append, HNL.out, List.length_replicate, ← hm]; rfl
    have hzz : SM.zeros n ≤ 63 := by unfold SM.zeros; omega
    obtain ⟨g, cp, hv, _⟩ := rO.cells (by rw [hll]; omega)
    rw [hll] at hv
    subst hv
    have RO := hid rO
    have HLL := hid hll
    clear rO rb hll
    by_cases hc : m % 64 = 56
    · have hd : (((m : Int) % 64) != 56) = false := by rw [bne_eq_false_iff_eq]; omega
      have hz5 : z = SM.zeros n := by unfold SM.zeros at hz hzz ⊢; omega
      have HZ5 := hid hz5
      have HM := hid hm
      clear hz5 hm hz hc
      rw [HZ5.out] at RO
      have O3 := RO
      have B2 := RB
      clear RO RB HLL
      go_wp2_with fail
      have hns := HNS.out
      rw [hns]
      have hk8 : (0 : Nat) ≤ 8 := by omega
      obtain ⟨P8, hP8⟩ : ∃ P8, L ++ [128] ++ List.replicate (SM.zeros n) 0 = P8 := ⟨_, rfl⟩
      have O8 := hid (show OwnsB wr W.heap.size (.slice (some ⟨g, 0, none⟩) m cp) P8 by rw [← hP8]; exact O3.out)
      have HP8 := hid hP8
      have hz127 : SM.zeros n ≤ 63 := by unfold SM.zeros; omega
      have hl8 : P8.length ≤ 1099511627776 + 300 := by rw [← hP8]; simp [HNL.out]; omega
      have HLL8 := hid hl8
      clear hP8 hl8 hz127
      go_loopw [4, 3] (fun i v wr => ∃ k : Nat, k ≤ 8 ∧ i = .int .i64 (7 - (k : Int)) ∧ OwnsB wr W.heap.size v (P8 ++ (SM.bytes8 (8 * UInt64.ofNat n)).take k) ∧ Below W.heap.size W wr) (fun i _ _ => (intOf i + 1).toNat)
      case atStart => exact ⟨0, by omega, rfl, by rw [List.take_zero, List.append_nil]; exact O8.out, B2.out⟩
      case round =>
        clear O3 B2 O8
        obtain ⟨k, hk, rfl, rO, rb⟩ := hrel
        have RO := hid rO
        have RB := hid rb
        have hb8 : (SM.bytes8 (8 * UInt64.ofNat n)).length = 8 := rfl
        by_cases hlt : k < 8
        · obtain ⟨j, hj⟩ : ∃ j, 7 - k = j := ⟨_, rfl⟩
          have hj2 : (7 : Int) - (k : Int) = (j : Int) := by omega
          rw [hj2]
          have hd : decide ((j : Int) ≥ 0) = true := decide_eq_true (by omega)
          have hj0 : 0 ≤ (j : Int) := by omega
          have hj1 : (j : Int) ≤ 7 := by omega
          have hsh : 8 * j < 64 := by omega
          have htk : (SM.bytes8 (8 * UInt64.ofNat n)).take (k + 1) = (SM.bytes8 (8 * UInt64.ofNat n)).take k ++ [(SM.bytes8 (8 * UInt64.ofNat n)).getD k 0] := by
            rw [List.take_succ_eq_append_getElem (by rw [hb8]; exact hlt)]; simp [hb8, hlt]
          have e2 : UW (8 * UInt64.ofNat n) = 8 * (n : Int) := by
            unfold UW
            rw [UInt64.toNat_mul, UInt64.toNat_ofNat', show (8 : UInt64).toNat = 8 from rfl, Nat.mod_eq_of_lt (a := n) (b := 2 ^ 64) (by omega), Nat.mod_eq_of_lt (by omega)]
            omega
          have hc : 8 * (n : Int) / (2 : Int) ^ (8 * j) % 256 = ((((SM.bytes8 (8 * UInt64.ofNat n)).getD k 0).toNat : Nat) : Int) := by
            rw [mbytes8_getD _ _ hlt, mbyte_of _ _ (by omega), e2, show 56 - 8 * k = 8 * j by omega]
          generalize (SM.bytes8 (8 * UInt64.ofNat n)).getD k 0 = c at *
          have hlen : (P8 ++ (SM.bytes8 (8 * UInt64.ofNat n)).take k).length ≤ 1099511627776 + 310 := by have := HLL8.out; rw [List.length_append, List.length_take, hb8]; omega
          have HLEN := hid hlen
          have HTK := hid htk
          obtain ⟨hj3, HJ⟩ := And.intro hj2 (hid hj)
          clear htk rO rb hb8 e2 hlen hj hj3 hk8
          have hO2 := OwnsB.keep RO.out (below_new (w := wr) (.cells #[.int .u8 (8 * (n : Int) / (2 : Int) ^ (8 * j) % 256)] 5))
          have hsrc : Src Tryd.prog 1 57 (.slice (some ⟨wr.heap.size, 0, none⟩) 1 1) 1 (u8s [c]) (wr.alloc (.cells #[.int .u8 (8 * (n : Int) / (2 : Int) ^ (8 * j) % 256)] 5)) := by
            rw [hc]
            exact Src.ofSlice _ Tryd.underlying57 ⟨wr.heap.size, 0, none⟩ 1 1 (u8s [c]) rfl (cell_one_new _ _ _) (by intro u hu; simp [u8s] at hu; subst hu; rfl)
          have HO2 := hid hO2
          have HSRC := hid hsrc
          clear hO2 hsrc hc hj2
          go_wp2_with (at_builtin; refine wpList_append_B rfl _ _ 57 57 rfl W.heap.size i0 Tryd.underlying57 hi hz0 hz1 hz2 _ _ rfl rfl _ [c] HO2.out HSRC.out (Nat.succ_pos 0) ?cc ?cd ?_)
          case cc => have := HLEN.out; simp only [List.length_cons, List.length_nil]; omega
          case cd => have := RB.out.size; simp; omega
          intro v' w2 O2 hgr
          have B2 := hid ((below_alloc RB.out _).grown hgr (by have := RB.out.size; simp; omega) (fun g hg => OwnsB.block RO.out hg))
          have O3 := hid O2
          clear O2 hgr
          go_wp2_with fail
          refine ⟨?_, ?_⟩
          · exact ⟨k + 1, by omega, by (have := HJ.out; congr 1; omega), by rw [HTK.out]; first | exact O3.out | (rw [← List.append_assoc]; exact O3.out), B2.out⟩
          · have := HJ.out
            simp [intOf]; try omega
        · have hk5 : k = 8 := by omega
          have hd : decide ((7 : Int) - (k : Int) ≥ 0) = false := decide_eq_false (by omega)
          have hP : P8 ++ (SM.bytes8 (8 * UInt64.ofNat n)).take k = SM.pad L := by
            rw [hk5, List.take_of_length_le (by rw [hb8]; exact Nat.le_refl _), ← HP8.out]
            unfold SM.pad; rw [HNL.out]; simp only [List.append_assoc]
          have hpl := SM.pad_length L
          have hpm : (SM.pad L).length ≤ 1099511627776 + 400 := by rw [← hP, List.length_append, List.length_take, hb8]; have := HLL8.out; omega
          have hp0 : 0 < (SM.pad L).length := by unfold SM.pad; simp; omega
          rw [hP] at rO
          have hsha : SM.out (SM.run (SM.pad L) ((SM.pad L).length / 64)) = SM.sum L := rfl
          generalize SM.pad L = Pd at *
          have HSHA := hid hsha
          obtain ⟨g2, cp2, rfl, hg2, hgl, hcap, hcm, hcell⟩ := rO.cells hp0
          have HCE := hid hcell
          have hst8 := store8L
          have hsz8 : (wrow F5).size = 8 := rfl
          have hk77 : (7 : Int) - (k : Int) = -1 := by omega
          rw [hk77] at hd ⊢
          clear rO rb RO hcell hP hsha hk5 hlt hk hb8 hk77
          obtain ⟨NH, hNH⟩ : ∃ NH, wr.heap.size = NH := ⟨_, rfl⟩
          have fH0 := hid (alloc_at' hNH.symm (.cells (vrow (List.replicate 8 0)) 59))
          have bH0 := hid (below_new (w := wr) (.cells (vrow (List.replicate 8 0)) 59))
          have HNH := hid hNH
          clear hNH
          go_wp2_with fail
          rw [HNH.out]
          refine (rfirst_any _).mono ?_
          rintro e w2 ⟨rfl, hb2⟩
          have C2 := hid (fun j (hj : j < Pd.length) => (hb2.cell (p := ⟨g2, j, none⟩) (Nat.lt_of_lt_of_le hgl bH0.out.size)).trans ((bH0.out.cell (p := ⟨g2, j, none⟩) hgl).trans (HCE.out j hj)))
          have H2 := hid (keepB hb2 fH0.out)
          have B2 := hid (below_to (below_to RB.out bH0.out) hb2)
          have hg3 : g2 < NH := by rw [← HNH.out]; exact hgl
          have hW2 : W.heap.size ≤ NH := by rw [← HNH.out]; exact RB.out.size
          have hNH2 : NH < w2.heap.size := lt_blk H2.out
          clear hb2 fH0 bH0
          go_wp2_with fail
          obtain ⟨q, hq⟩ : ∃ q, Pd.length = 64 * q := ⟨Pd.length / 64, by omega⟩
          obtain ⟨NF, hNF⟩ : ∃ NF, w2.heap.size = NF := ⟨_, rfl⟩
          rw [hNF] at hNH2 ⊢
          have HQ := hid hq
          clear hq
          have fF := hid (alloc_at' hNF.symm (.cells (wrow F5) 60))
          have fH := hid (alloc_old (o' := .cells (wrow F5) 60) H2.out)
          have C3 := hid (fun j (hj : j < Pd.length) => keepA (.cells (wrow F5) 60) (C2.out j hj))
          have B3 := hid (below_alloc B2.out (.cells (wrow F5) 60))
          clear hNF C2 B2 hst8 hsz8 HCE RB hgl hg2 hd H2 HNH
          have hxF : #[.int .u64 (UW 7640891576956012808), .int .u64 (UW 13503953896175478587), .int .u64 (UW 4354685564936845355), .int .u64 (UW 11912009170470909681), .int .u64 (UW 5840696475078001361), .int .u64 (UW 11170449401992604703), .int .u64 (UW 2270897969802886507), .int .u64 (UW 6620516959819538809)] = wrow F5 := rfl
          try rw [hxF]
          clear hxF
          generalize w2.alloc (.cells (wrow F5) 60) = w3 at *
          go_loopw [7] (fun i wr => ∃ k : Nat, k ≤ 8 ∧ i = .int .i64 (k : Int) ∧ wr.heap[NH]? = some (.cells (vrow ((mstl SM.init).take k ++ (List.replicate 8 0).drop k)) 59 (0, 0)) ∧ wr.heap[NF]? = some (.cells (wrow F5) 60 (0, 0)) ∧ (∀ j, j < Pd.length → wr.cell? ⟨g2, j, none⟩ = some (.int .u8 ((Pd.getD j 0).toNat : Int))) ∧ Below W.heap.size W wr) (fun i _ => (8 - intOf i).toNat)
          case atStart => exact ⟨0, by omega, rfl, fH.out, fF.out, C3.out, B3.out⟩
          case round =>
            clear fF fH C3 B3
            obtain ⟨k, hk, rfl, rH, rF, rC, rb⟩ := hrel
            have RH := hid rH
            have RF := hid rF
            have RC := hid rC
            have RB := hid rb
            have hl1 : (mstl SM.init).length = (List.replicate 8 (0 : UInt32)).length := rfl
            by_cases hlt : k < 8
            · have hd : decide ((k : Int) < 8) = true := decide_eq_true (by omega)
              have hk0 : 0 ≤ (k : Int) := by omega
              have hk1 : (k : Int) < 8 := by omega
              have cf := wrow_cell rF (j := k) (by exact hlt)
              have ch := vrow_cell rH (j := k) (by rw [mput_len hl1]; exact hlt)
              have hf := free_at rH
              have hhf := half_F hlt
              have hs := mput_step hl1 (i := k) (by exact hlt)
              generalize F5.getD k 0 = f5 at *
              generalize (mstl SM.init).getD k 0 = i5 at *
              have HSS := hid hs
              clear rH rF rC rb hl1 hs
              go_wp2_with fail
              refine ⟨⟨k + 1, by omega, by go_num, ?_, at_setCell_other RF.out (by show NF ≠ NH; omega) _, fun j hj => ?_, RB.out.setCell (by show W.heap.size ≤ NH; exact hW2) _⟩, by simp [intOf]; omega⟩
              · rw [← HSS.out]
                exact vrow_store RH.out _ _
              · rw [World.cell?_setCell_other (h := by intro e; injection e with e1 e2; omega)]
                exact RC.out j hj
            · have hd : decide ((k : Int) < 8) = false := decide_eq_false (by omega)
              have hk8 : k = 8 := by omega
              have e8 : (mstl SM.init).take 8 ++ (List.replicate 8 (0 : UInt32)).drop 8 = mstl SM.init := rfl
              rw [hk8, e8] at rH
              have RH2 := hid (show wr.heap[NH]? = some (.cells (mstv (SM.run Pd 0)) 59 (0, 0)) from rH)
              clear rH rF rC rb RH RF hl1 e8 hk8
              go_wp2_with fail
              clear hd hlt hk
              go_loopw [8] (fun i wr => ∃ k : Nat, k ≤ q ∧ i = .int .i64 ((64 * k : Nat) : Int) ∧ wr.heap[NH]? = some (.cells (mstv (SM.run Pd k)) 59 (0, 0)) ∧ (∀ j, j < Pd.length → wr.cell? ⟨g2, j, none⟩ = some (.int .u8 ((Pd.getD j 0).toNat : Int))) ∧ Below W.heap.size W wr) (fun i _ => (Pd.length - intOf i).toNat)
              case atStart => exact ⟨0, by omega, rfl, RH2.out, RC.out, RB.out⟩
              case round =>
                clear RH2 RC RB
                obtain ⟨k, hk, rfl, rH, rC, rb⟩ := hrel
                have RH := hid rH
                have RC := hid rC
                have RB := hid rb
                have hq := HQ.out
                by_cases hlt : k < q
                · have hd : decide (((64 * k : Nat) : Int) < (Pd.length : Int)) = true := decide_eq_true (by omega)
                  have hdn : decide (64 * k < Pd.length) = true := decide_eq_true (by omega)
                  obtain ⟨c0, c1, c2, c3, c4, c5, c6, c7⟩ := oct_vcells rH
                  obtain ⟨Y, hY⟩ : ∃ Y, SM.block (SM.run Pd k) ((Pd.drop (64 * k)).take 64) = Y := ⟨_, rfl⟩
                  have hrun : SM.run Pd (k + 1) = Y := by rw [← hY]; rfl
                  have hbl : ((Pd.drop (64 * k)).take 64).length = 64 := by rw [List.length_take, List.length_drop]; omega
                  have hcall := fun w (hc : ∀ j, j < 64 → w.cell? ⟨g2, 64 * k + j, none⟩ = some (.int .u8 ((((Pd.drop (64 * k)).take 64).getD j 0).toNat : Int))) => rblock_Y (SM.run Pd k) Y _ g2 (64 * k) (cp2 - 64 * k) w hY hbl (by omega) hc
                  have hget : ∀ j, j < 64 → ((Pd.drop (64 * k)).take 64).getD j 0 = Pd.getD (64 * k + j) 0 := fun j hj => by
                    simp [hj, List.getElem?_drop]
                  have HCALL := hid hcall
                  have HRUN := hid hrun
                  have HGET := hid hget
                  have hf := free_at rH
                  have hq1 : 64 * k + 64 ≤ Pd.length := by omega
                  have hq2 : 64 * k + 64 ≤ cp2 := by omega
                  have HK := hid hcm
                  generalize hK : 64 * k = K at *
                  have HKK := hid hK
                  generalize SM.run Pd k = st at *
                  clear rH rC rb hY hrun hbl hcall hget hK hq
                  have hsum : IntKind.i64.wrap ((K : Int) + 64) = (K : Int) + 64 := IntWalk.i64_in _ (by unfold maxLen at hcm; omega)
                  have hK0 : 0 ≤ (K : Int) := by omega
                  have hK1 : (K : Int) + 64 ≤ (cp2 : Int) := by omega
                  have hK2 : (K : Int) ≤ (K : Int) + 64 := by omega
                  have hK3 : ((K : Int) + 64).toNat = K + 64 := by omega
                  have hK4 : ¬ cp2 = K := by omega
                  go_wp2_with fail
                  refine still_tail 6 (by kernel_rfl) (by kernel_rfl) ?_
                  simp only [List.take_succ_cons, List.take_zero, List.drop_succ_cons, List.drop_zero]
                  repeat (first | (refine wpStill_step (fun K hK => ?_); go_simp; refine hK _ ?_; clear hK K; try go_ints))
                  refine wpStill_nil ?_
                  go_wp2_with fail
                  refine (HCALL.out _ (fun j hj => by rw [HGET.out j hj]; exact RC.out (K + j) (by omega))).mono ?_
                  rintro e w4 ⟨rfl, hb4⟩
                  have H4 : w4.heap[NH]? = some (.cells (mstv st) 59 (0, 0)) := keepB hb4 (show (wr.drew).heap[NH]? = _ from RH.out)
                  have hg2l : ∀ j, j < Pd.length → w4.cell? ⟨g2, j, none⟩ = some (.int .u8 ((Pd.getD j 0).toNat : Int)) := fun j hj => (hb4.cell (p := ⟨g2, j, none⟩) (show g2 < wr.drew.heap.size from World.block_lt_of_cell? wr _ (RC.out j hj))).trans (RC.out j hj)
                  have B4 := hid (below_to (show Below W.heap.size W wr.drew from RB.out.drew) hb4)
                  have C4 := hid hg2l
                  obtain ⟨d0, d1, d2, d3, d4, d5, d6, d7⟩ := oct_vcells H4
                  have hf4 := free_at H4
                  have H4' := hid H4
                  clear H4 hb4 hg2l c0 c1 c2 c3 c4 c5 c6 c7 hf
                  go_wp2_with fail
                  rw [vset8 H4'.out]
                  have lH := lt_blk H4'.out
                  have hgne : g2 ≠ NH := by omega
                  refine ⟨?_, ?_⟩
                  · refine ⟨k + 1, by omega, by (have := HKK.out; congr 1; omega), by rw [HRUN.out]; exact blk_heap lH, fun j hj => ?_, below_blk' B4.out hW2 _⟩
                    rw [World.cell?_of_block (w := w4) (blk_other g2 hgne)]
                    exact C4.out j hj
                  · have := HKK.out
                    have := HQ.out
                    simp [intOf]; omega
                · have hkq : k = q := by omega
                  have hd : decide (((64 * k : Nat) : Int) < (Pd.length : Int)) = false := decide_eq_false (by omega)
                  have hdn : decide (64 * k < Pd.length) = false := decide_eq_false (by omega)
                  have hd3 : decide (64 * (k : Int) < (Pd.length : Int)) = false := decide_eq_false (by omega)
                  have hqq : Pd.length / 64 = k := by omega
                  clear hq
                  have hs2 := HSHA.out
                  rw [hqq] at hs2
                  generalize SM.run Pd k = st at *
                  have HS2 := hid hs2
                  have RX := hid rH
                  clear rH rC rb RH RC hs2 hqq hkq
                  go_wp2_with fail
                  obtain ⟨NO, hNO⟩ : ∃ NO, wr.heap.size = NO := ⟨_, rfl⟩
                  have fO := hid (alloc_at' hNO.symm (.cells (brow (List.replicate 32 0)) 5))
                  have fX := hid (alloc_old (o' := .cells (brow (List.replicate 32 0)) 5) RX.out)
                  have fB := hid (below_alloc RB.out (.cells (brow (List.replicate 32 0)) 5))
                  have hNX : NH < NO := by rw [← hNO]; exact lt_blk RX.out
                  have hNW : W.heap.size ≤ NO := by rw [← hNO]; exact RB.out.size
                  rw [hNO]
                  clear hNO RX RB hd hdn hlt hk
                  go_loopw [10] (fun i wr => ∃ k : Nat, k ≤ 32 ∧ i = .int .i64 (k : Int) ∧ wr.heap[NO]? = some (.cells (brow ((SM.out st).take k ++ (List.replicate 32 0).drop k)) 5 (0, 0)) ∧ wr.heap[NH]? = some (.cells (mstv st) 59 (0, 0)) ∧ Below W.heap.size W wr) (fun i _ => (32 - intOf i).toNat)
                  case atStart => exact ⟨0, by omega, rfl, fO.out, fX.out, fB.out⟩
                  case round =>
                    clear fO fX fB
                    obtain ⟨k, hk, rfl, rO, rX, rb⟩ := hrel
                    have RX := hid rX
                    have RB := hid rb
                    have hl1 : (SM.out st).length = (List.replicate 32 (0 : UInt8)).length := rfl
                    have RO := hid rO
                    by_cases hlt : k < 32
                    · have hd : decide ((k : Int) < 32) = true := decide_eq_true (by omega)
                      have hk0 : 0 ≤ (k : Int) := by omega
                      have hk1 : (k : Int) < 32 := by omega
                      have cx := vrow_cell rX (j := k / 4) (by show k / 4 < 8; omega)
                      have co := brow_cell rO (j := k) (by rw [put_len8 hl1, SM.out_length]; exact hlt)
                      have hf := free_at rO
                      have hd0 : 0 ≤ (k : Int) / 4 := by omega
                      have hd1 : (k : Int) / 4 < 8 := by omega
                      have hd2 : ((k : Int) / 4).toNat = k / 4 := by omega
                      have hs := put_u8 hl1 (i := k) (by rw [SM.out_length]; exact hlt)
                      have hg := mout_getD st (k / 4) (k % 4) (by omega) (by omega)
                      rw [show 4 * (k / 4) + k % 4 = k by omega, mbytes4_getD _ _ (by omega)] at hg
                      have hc := vbyte ((mstl st).getD (k / 4) 0) (24 - 8 * (k % 4)) (by omega)
                      rw [← hg] at hc
                      have hsub : (24 : Int) - (k : Int) % 4 * 8 = ((24 - 8 * (k % 4) : Nat) : Int) := by omega
                      have hsh : 24 - 8 * (k % 4) < 32 := by omega
                      have hm0 : 0 ≤ (k : Int) % 4 := by omega
                      have hm1 : (k : Int) % 4 < 4 := by omega
                      generalize (SM.out st).getD k 0 = c at *
                      generalize (mstl st).getD (k / 4) 0 = x at *
                      have HSS := hid hs
                      have HC := hid hc
                      clear rO rX rb hl1 hs hc hg
                      go_wp2_with fail
                      rw [HC.out]
                      refine ⟨⟨k + 1, by omega, by go_num, ?_, at_setCell_other RX.out (by show NH ≠ NO; omega) _, RB.out.setCell (by show W.heap.size ≤ NO; exact hNW) _⟩, by simp [intOf]; omega⟩
                      rw [← HSS.out]
                      exact brow_store RO.out _ _
                    · have hk5 : k = 32 := by omega
                      have hd : decide ((k : Int) < 32) = false := decide_eq_false (by omega)
                      have he : (SM.out st).take k ++ (List.replicate 32 0).drop k = SM.out st := by
                        rw [hk5, List.take_of_length_le (by rw [SM.out_length]; exact Nat.le_refl _), List.drop_eq_nil_of_le (by rw [List.length_replicate]; exact Nat.le_refl _), List.append_nil]
                      rw [he] at rO
                      have hcv := conv_string wr NO 0 32 32 (SM.out st) (SM.out_length st) (fun j hj => by rw [Nat.zero_add]; exact brow_cell rO (by rw [SM.out_length]; exact hj))
                      rw [HS2.out] at hcv
                      clear rO rX rb RO RX he hk5
                      go_wp2_with fail
                      go_ret
                      exact ⟨by rw [HLC.out]; rfl, RB.out⟩
    · have hd : (((m : Int) % 64) != 56) = true := by rw [bne_iff_ne]; omega
      have hzlt : z < SM.zeros n := by
        rcases Nat.lt_or_ge z (SM.zeros n) with h | h
        · exact h
        · exact absurd (show m % 64 = 56 by unfold SM.zeros at *; omega) hc
      have HZ := hid hz
      have HM := hid hm
      clear hm hc hz
      have hO2 := OwnsB.keep RO.out (below_new (w := wr) (.cells #[.int .u8 (0 : Int)] 5))
      have hsrc : Src Tryd.prog 1 57 (.slice (some ⟨wr.heap.size, 0, none⟩) 1 1) 1 (u8s [0]) (wr.alloc (.cells #[.int .u8 (0 : Int)] 5)) :=
        Src.ofSlice _ Tryd.underlying57 ⟨wr.heap.size, 0, none⟩ 1 1 (u8s [0]) rfl (cell_one_new _ _ _) (by intro u hu; simp [u8s] at hu; subst hu; rfl)
      have HO2 := hid hO2
      have HSRC := hid hsrc
      clear hO2 hsrc
      go_wp2_with (at_builtin; refine wpList_append_B rfl _ _ 57 57 rfl W.heap.size i0 Tryd.underlying57 hi hz0 hz1 hz2 _ _ rfl rfl _ [0] HO2.out HSRC.out (by decide) ?ca ?cb ?_)
      case ca => rw [HLL.out, ← HM.out]; simp only [List.length_cons, List.length_nil]; omega
      case cb => have := RB.out.size; simp; omega
      intro v' w2 O2 hgr
      have B2 := hid ((below_alloc RB.out _).grown hgr (by have := RB.out.size; simp; omega) (fun g hg => OwnsB.block RO.out hg))
      have O3 := hid O2
      clear O2 hgr
      go_wp2_with fail
      go_roundg (gk - 1)
      case measure => omega
      case rel => exact ⟨z + 1, by have := HZ.out; omega, by have := HZ.out; omega, by rw [List.replicate_succ', ← List.append_assoc]; have h := O3.out; simpa using h, B2.out⟩

end Go.Proofs.YtejkimhmpnogkaaDoor
