/- The walk of the document's Expand. The walk of Label. The walk of the document's Label. -/
import Derived.Test.YtejkimhmpnogkaaDoorHkP
import Derived.Test.YtejkimhmpnogkaaDoorSumR2
import Derived.Deep.AppendSrc
import Derived.Test.YtejkimhmpnogkaaDoorHkW3
namespace Go.Proofs.YtejkimhmpnogkaaDoor
open Go.RowKit

theorem RExpand_no (key info : ByteArray) (n : Int) (W : World) (h : n < 0 ∨ 8160 < n) :
    Calls Tryd.prog 26 #[.string key, .string info, .int .i64 n] W fun e w' => e = .returned (.tuple #[.string ⟨#[]⟩, .int .i64 2]) ∧ W = w' := by
  by_cases hn : n < 0
  · have d0 : decide (n < 0) = true := decide_eq_true hn
    go_enter Tryd.func26, Tryd.ntmps26
    go_wp2_with fail
    go_ret2
    exact ⟨rfl, rfl⟩
  · have d0 : decide (n < 0) = false := decide_eq_false hn
    have d1 : decide (n > 8160) = true := decide_eq_true (by omega)
    go_enter Tryd.func26, Tryd.ntmps26
    go_wp2_with fail
    go_ret2
    exact ⟨rfl, rfl⟩

@[go_sem] theorem conv_nil0 (w : World) : (convert 57 9 (.slice none 0 0)).run Tryd.prog w = .ok (.string ⟨#[]⟩) w := by kernel_rfl
theorem ownsB_slice {w : World} {B : Nat} {v : Value} {l : List UInt8} (h : OwnsB w B v l) : ∃ a c, v = .slice a l.length c := by
  rcases h with ⟨rfl, rfl⟩ | ⟨g, cap, cur, fz, rfl, _⟩
  · exact ⟨none, 0, rfl⟩
  · exact ⟨_, _, rfl⟩

set_option maxRecDepth 100000 in
set_option maxHeartbeats 2000000 in
theorem RExpand_yes (key info : ByteArray) (N : Nat) (W : World) (hk : key.size ≤ 68719476736) (hin : info.size ≤ 34359738368) (hN : N ≤ 8160) :
    Calls Tryd.prog 26 #[.string key, .string info, .int .i64 (N : Int)] W fun e w' => e = .returned (.tuple #[.string ⟨(HK.expand key.data.toList info.data.toList N).toArray⟩, .int .i64 0]) ∧ Below W.heap.size W w' := by
  obtain ⟨i0, hi, hz0, hz1, hz2⟩ := info_parts info_u8
  have d0 : decide ((N : Int) < 0) = false := decide_eq_false (by omega)
  have d1 : decide ((N : Int) > 8160) = false := decide_eq_false (by omega)
  go_enter Tryd.func26, Tryd.ntmps26
  go_wp2_with fail
  go_loopw [8, 9, 10] (fun v t i wr => ∃ (k : Nat) (tb : ByteArray), k ≤ 255 ∧ OwnsB wr W.heap.size v (HK.pieces key.data.toList info.data.toList k) ∧ t = .string tb ∧ tb.data.toList = HK.piece key.data.toList info.data.toList k ∧ i = .int .i64 ((k : Int) + 1) ∧ Below W.heap.size W wr ∧ HK.need N ≤ 255)
    (fun _ _ i _ => (256 - intOf i).toNat)
  case atStart => exact ⟨0, ⟨#[]⟩, by omega, OwnsB.nil _ _, rfl, rfl, rfl, Below.refl _ _, by unfold HK.need; omega⟩
  case round =>
    obtain ⟨k, tb, hk5, ho, rfl, htb, rfl, hb, hnd⟩ := hrel
    obtain ⟨a, cp, rfl⟩ := ownsB_slice ho
    rw [HK.pieces_length] at ho ⊢
    by_cases hlt : 32 * k < N
    · have hd : decide (((32 * k : Nat) : Int) < (N : Int)) = true := decide_eq_true (by omega)
      have hm0 : ((k : Int) + 1) % 256 = (k : Int) + 1 := by omega
      have hu : ((UInt8.ofNat (k + 1)).toNat : Int) = (k : Int) + 1 := by
        rw [UInt8.toNat_ofNat_of_lt' (by simp [UInt8.size]; omega)]; omega
      obtain ⟨c, hc⟩ : ∃ c, UInt8.ofNat (k + 1) = c := ⟨_, rfl⟩
      rw [hc] at hu
      have a1 := alloc_at wr (.cells #[.int .u8 ((k : Int) + 1)] 5)
      have b1 := below_new (w := wr) (.cells #[.int .u8 ((k : Int) + 1)] 5)
      have hcv := conv_string (wr.alloc (.cells #[.int .u8 ((k : Int) + 1)] 5)) wr.heap.size 0 1 1 [c] rfl (fun j hj => by
        have : j = 0 := by omega
        subst this
        rw [cell_at a1, List.getD_cons_zero, hu]; rfl)
      have B1 := hid (below_to hb b1)
      have O1 := hid (OwnsB.keep ho b1)
      have hts : tb.size ≤ 32 := by
        have h1 : tb.data.toList.length = tb.size := by simp
        rw [← h1, htb]
        cases k with
        | zero => exact Nat.zero_le _
        | succ n => exact Nat.le_of_eq (HK.piece_length _ _ _)
      have hsz : (tb ++ info ++ (⟨#[c]⟩ : ByteArray)).size ≤ 68719476736 := by
        have h2 : (⟨#[c]⟩ : ByteArray).size = 1 := rfl
        rw [ByteArray.size_append, ByteArray.size_append, h2]; omega
      have htag := hid (RTag_any key (tb ++ info ++ ⟨#[c]⟩) (wr.alloc (.cells #[.int .u8 ((k : Int) + 1)] 5)) hk hsz)
      have hx : SM.tag key.data.toList (tb ++ info ++ (⟨#[c]⟩ : ByteArray)).data.toList = HK.piece key.data.toList info.data.toList (k + 1) := by
        rw [HK.piece, ← htb, hc]; simp
      have HX := hid hx
      have hss : (tb ++ info).size = tb.size + info.size := ByteArray.size_append
      have hs1 : (⟨#[c]⟩ : ByteArray).size = 1 := rfl
      clear hc hu a1 b1 hsz hx htb hb ho
      go_wp2_with fail
      refine htag.out.mono ?_
      rintro e w2 ⟨rfl, hb2⟩
      have B2 := hid (below_to B1.out hb2)
      have O2 := hid (OwnsB.keep O1.out hb2)
      obtain ⟨T, hT⟩ : ∃ T : ByteArray, (⟨(SM.tag key.data.toList (tb ++ info ++ (⟨#[c]⟩ : ByteArray)).data.toList).toArray⟩ : ByteArray) = T := ⟨_, rfl⟩
      have hTl : T.data.toList = HK.piece key.data.toList info.data.toList (k + 1) := by rw [← hT, ← HX.out]
      rw [hT]
      have hTs : T.size = 32 := by rw [← hT]; rfl
      have hla := laid_bytes w2 T
      have b3 := bytesWorld_below w2 5 T
      have hlen3 : T.data.toList.length = 32 := by rw [hTl]; rfl
      have hsrc : Src Tryd.prog 1 57 (.slice (some ⟨w2.heap.size, 0, none⟩) T.size (grownCap w2 T.size 0 5)) T.data.toList.length (u8s T.data.toList) (Lib.bytesWorld w2 5 T) := by
        rw [show T.data.toList.length = T.size by simp]
        refine Src.ofSlice _ Tryd.underlying57 ⟨w2.heap.size, 0, none⟩ _ _ (u8s T.data.toList) (by simp [u8s]) ?_ (by intro u hu; simp [u8s] at hu; obtain ⟨x, _, rfl⟩ := hu; rfl)
        intro j u hj
        have hjl : j < T.data.toList.length := by have := (List.getElem?_eq_some_iff.1 hj).1; simpa [u8s] using this
        have := hla.cell hjl
        rw [Addr.add_mid, Nat.zero_add, this]
        simp [u8s] at hj ⊢
        obtain ⟨x, hx1, hx2⟩ := hj
        rw [← hx2, hx1]; rfl
      have HS := hid hsrc
      have HTL := hid hTl
      have O3 := hid (OwnsB.keep O2.out b3)
      have B3 := hid (below_to B2.out b3)
      have h3 := B3.out.size
      have H3 := hid h3
      have HL3 := hid hlen3
      clear hT hTl hTs hla b3 hb2 htag hsrc hlen3 h3 B1 O1 O2 B2 HX hss hs1 hcv hm0
      go_wp2_with (at_builtin; refine wpList_append_B rfl _ _ 57 57 rfl W.heap.size i0 Tryd.underlying57 hi hz0 hz1 hz2 _ _ rfl rfl _ T.data.toList O3.out HS.out (by rw [HL3.out]; decide) ?ca ?cb ?_)
      case ca => rw [HK.pieces_length, HL3.out]; omega
      case cb => exact H3.out
      intro v' w4 ho4 hg4
      have B4 := hid (B3.out.grown hg4 H3.out (fun g hg => OwnsB.block O3.out hg))
      have O4 := hid ho4
      clear ho4 hg4
      go_wp2_with fail
      go_roundw
      case rel => exact ⟨k + 1, T, by omega, by rw [HK.pieces, ← HTL.out]; exact O4.out, rfl, HTL.out, by go_num, B4.out, hnd⟩
      case measure => simp [intOf]; omega
    · have hd : decide (((32 * k : Nat) : Int) < (N : Int)) = false := decide_eq_false (by omega)
      have hneed : HK.need N ≤ k := by unfold HK.need; omega
      have hfin := HK.expand_of key.data.toList info.data.toList hneed
      have hpl := HK.pieces_length key.data.toList info.data.toList k
      have HF := hid hfin
      have HB := hid hb
      have hn0 : (0 : Int) ≤ (N : Int) := by omega
      rcases ho with ⟨hv, hl⟩ | ⟨g, cap, cur, fz, hv, h2, h3, h4, h5, h6, h7, h8⟩
      · have hk0 : 32 * k = 0 := by rw [← hpl, hl]; rfl
        have hN0 : N = 0 := by omega
        subst hN0
        have hk00 : k = 0 := by omega
        subst hk00
        simp only [Nat.mul_zero, Value.slice.injEq, true_and] at hv
        obtain ⟨rfl, rfl⟩ := hv
        simp only [Nat.mul_zero] at *
        clear hfin hb hl htb hneed hpl
        go_wp2_with fail
        go_ret2
        exact ⟨rfl, HB.out⟩
      · rw [hpl] at hv h5 h8
        obtain ⟨rfl, rfl⟩ : a = some ⟨g, 0, none⟩ ∧ cp = cap := by cases hv; exact ⟨rfl, rfl⟩
        have hcv := conv_string wr g 0 N cp ((HK.pieces key.data.toList info.data.toList k).take N) (by rw [List.length_take, hpl]; omega) (fun j hj => by
          rw [Nat.zero_add, cell_at h3]
          have hj2 : j < 32 * k := by omega
          have e1 : cur.toList[j]? = (u8s (HK.pieces key.data.toList info.data.toList k))[j]? := by
            rw [← h8, List.getElem?_take, if_pos hj2]
          rw [← Array.getElem?_toList, e1]
          have hj3 : j < (HK.pieces key.data.toList info.data.toList k).length := by rw [hpl]; exact hj2
          simp [u8s, hj3, hj])
        rw [hfin] at hcv
        have hn1 : N ≤ cp := by omega
        have hn2 : (N : Int) ≤ (cp : Int) := by omega
        clear hfin hb htb h2 h3 h4 h7 h8 hv
        go_wp2_with fail
        go_ret2
        exact ⟨rfl, HB.out⟩

end Go.Proofs.YtejkimhmpnogkaaDoor

namespace Go.Proofs.YtejkimhmpnogkaaDoor
open Go.RowKit

theorem label_no (key label ctx : ByteArray) (n : Int) (W : World) (h : 249 < label.size ∨ 255 < ctx.size) (h1 : label.size ≤ 140737488351232) (h2 : ctx.size ≤ 140737488351232) :
    Calls Tryd.prog 28 #[.string key, .string label, .string ctx, .int .i64 n] W fun e w' => e = .returned (.tuple #[.string ⟨#[]⟩, .int .i64 2]) ∧ W = w' := by
  by_cases hn : 249 < label.size
  · have d0 : decide ((label.size : Int) > 249) = true := decide_eq_true (by omega)
    go_enter Tryd.func28, Tryd.ntmps28
    go_wp2_with fail
    go_ret2
    exact ⟨rfl, rfl⟩
  · have d0 : decide ((label.size : Int) > 249) = false := decide_eq_false (by omega)
    have d1 : decide ((ctx.size : Int) > 255) = true := decide_eq_true (by omega)
    go_enter Tryd.func28, Tryd.ntmps28
    go_wp2_with fail
    go_ret2
    exact ⟨rfl, rfl⟩

/-- The bytes of a number, as the text has them. -/
def b0 (n : Int) : UInt8 := UInt8.ofNat (n / 256 % 256).toNat
def b1 (n : Int) : UInt8 := UInt8.ofNat (n % 256).toNat
theorem b0_val (n : Int) : ((b0 n).toNat : Int) = n / 256 % 256 := by
  unfold b0; rw [UInt8.toNat_ofNat_of_lt' (by simp [UInt8.size]; omega)]; omega
theorem b1_val (n : Int) : ((b1 n).toNat : Int) = n % 256 := by
  unfold b1; rw [UInt8.toNat_ofNat_of_lt' (by simp [UInt8.size]; omega)]; omega
/-- What stands beside the key, for a label. -/
def besideL (label ctx : List UInt8) (n : Int) : List UInt8 :=
  [b0 n, b1 n, UInt8.ofNat (6 + label.length)] ++ ([116, 108, 115, 49, 51, 32] ++ label) ++ [UInt8.ofNat ctx.length] ++ ctx
theorem src_string (s : ByteArray) (w : World) : Src Tryd.prog 1 9 (.string s) s.data.toList.length (u8s s.data.toList) w := by
  rw [show s.data.toList.length = s.size by simp]
  exact Src.ofString _ u_str s

set_option maxRecDepth 100000 in
set_option maxHeartbeats 2000000 in
theorem label_yes (key label ctx : ByteArray) (n : Int) (R : ByteArray → Value) (W : World) (hT : Tab W) (h1 : label.size ≤ 249) (h2 : ctx.size ≤ 255)
    (hE : ∀ (x : ByteArray) (w : World), Tab w → x.data.toList = besideL label.data.toList ctx.data.toList n → Calls Tryd.prog 25 #[.string key, .string x, .int .i64 n] w fun e w' => (∃ u v, e = .returned (.tuple #[u, v]) ∧ R x = .tuple #[u, v]) ∧ Below w.heap.size w w') :
    Calls Tryd.prog 28 #[.string key, .string label, .string ctx, .int .i64 n] W fun e w' => (∃ x : ByteArray, x.data.toList = besideL label.data.toList ctx.data.toList n ∧ e = .returned (R x)) ∧ Below W.heap.size W w' := by
  obtain ⟨i0, hi, hz0, hz1, hz2⟩ := info_parts i_u8
  have d0 : decide ((label.size : Int) > 249) = false := decide_eq_false (by omega)
  have d1 : decide ((ctx.size : Int) > 255) = false := decide_eq_false (by omega)
  obtain ⟨L, hL⟩ : ∃ L : ByteArray, (({ data := #[116, 108, 115, 49, 51, 32] } : ByteArray) ++ label) = L := ⟨_, rfl⟩
  have hs : L.size = 6 + label.size := by rw [← hL]; exact ByteArray.size_append
  have hLl : L.data.toList = [116, 108, 115, 49, 51, 32] ++ label.data.toList := by rw [← hL]; simp
  have hlen : L.data.toList.length = 6 + label.size := by rw [← hs]; simp
  have hb0 := b0_val n
  have hb1 := b1_val n
  have hc6 : ((UInt8.ofNat (6 + label.size)).toNat : Int) = 6 + (label.size : Int) := by
    rw [UInt8.toNat_ofNat_of_lt' (by simp [UInt8.size]; omega)]; omega
  obtain ⟨c6, hc6e⟩ : ∃ c, UInt8.ofNat (6 + label.size) = c := ⟨_, rfl⟩
  rw [hc6e] at hc6
  have HC6 := hid hc6e
  have hcx : ((UInt8.ofNat ctx.size).toNat : Int) = (ctx.size : Int) := by
    rw [UInt8.toNat_ofNat_of_lt' (by simp [UInt8.size]; omega)]
  have a1 := alloc_at W (.cells #[.int .u8 (n / 256 % 256), .int .u8 (n % 256), .int .u8 (6 + (label.size : Int))] 5)
  have B1 := hid (below_new (w := W) (.cells #[.int .u8 (n / 256 % 256), .int .u8 (n % 256), .int .u8 (6 + (label.size : Int))] 5))
  have O1 : Hid (OwnsB (W.alloc (.cells #[.int .u8 (n / 256 % 256), .int .u8 (n % 256), .int .u8 (6 + (label.size : Int))] 5)) W.heap.size (.slice (some ⟨W.heap.size, 0, none⟩) 3 3) [b0 n, b1 n, c6]) :=
    hid (.inr ⟨_, 3, _, _, rfl, Nat.le_refl _, a1, fun j _ => free_at a1 j, by simp, by unfold maxLen; decide, rfl, by simp [u8s, hb0, hb1, hc6]⟩)
  have HS := hid (src_string L (W.alloc (.cells #[.int .u8 (n / 256 % 256), .int .u8 (n % 256), .int .u8 (6 + (label.size : Int))] 5)))
  have HLen := hid hlen
  have HLl := hid hLl
  have HCX := hid hcx
  have HEx := hid hE
  have HT := hid hT
  clear hlen hLl hb0 hb1 hc6 hc6e a1 hE hT
  go_enter Tryd.func28, Tryd.ntmps28
  go_wp2_with (at_builtin; refine wpList_append_B rfl _ _ 57 9 rfl W.heap.size i0 Tryd.underlying57 hi hz0 hz1 hz2 _ _ rfl rfl _ L.data.toList O1.out HS.out (by rw [HLen.out]; omega) ?ca ?cb ?_)
  case ca => rw [HLen.out]; simp only [List.length_cons, List.length_nil]; omega
  case cb => simp
  intro v' w2 ho2 hg2
  have B2 := hid (B1.out.grown hg2 (by simp) (fun g hg => OwnsB.block O1.out hg))
  obtain ⟨P2, hP2⟩ : ∃ P2, [b0 n, b1 n, c6] ++ L.data.toList = P2 := ⟨_, rfl⟩
  replace ho2 : OwnsB w2 W.heap.size v' P2 := by rw [← hP2]; exact ho2
  have hP2l : P2.length = 9 + label.size := by rw [← hP2, List.length_append, HLen.out]; simp only [List.length_cons, List.length_nil]; omega
  have HP2 := hid hP2
  have HP2l := hid hP2l
  have O2 := hid ho2
  obtain ⟨a2, c2, rfl⟩ := ownsB_slice ho2
  obtain ⟨cx, hcxe⟩ : ∃ c, UInt8.ofNat ctx.size = c := ⟨_, rfl⟩
  rw [hcxe] at hcx
  have HCXE := hid hcxe
  have O3 := hid (OwnsB.keep O2.out (below_new (w := w2) (.cells #[.int .u8 (ctx.size : Int)] 5)))
  have B3 := hid (below_alloc B2.out (.cells #[.int .u8 (ctx.size : Int)] 5))
  have hsrc : Src Tryd.prog 1 57 (.slice (some ⟨w2.heap.size, 0, none⟩) 1 1) 1 (u8s [cx]) (w2.alloc (.cells #[.int .u8 (ctx.size : Int)] 5)) :=
    Src.ofSlice _ Tryd.underlying57 ⟨w2.heap.size, 0, none⟩ 1 1 (u8s [cx]) rfl (by
      have := cell_one_new w2 (.int .u8 (ctx.size : Int)) 5
      simpa [u8s, hcx] using this) (by intro u hu; simp [u8s] at hu; subst hu; rfl)
  have HS3 := hid hsrc
  clear hsrc ho2 hg2 O1 HS B1 hcx hcxe hP2 hP2l
  go_wp2_with (at_builtin; refine wpList_append_B rfl _ _ 57 57 rfl W.heap.size i0 Tryd.underlying57 hi hz0 hz1 hz2 _ _ rfl rfl _ [cx] O3.out HS3.out (Nat.succ_pos 0) ?cc ?cd ?_)
  case cc => rw [HP2l.out]; simp only [List.length_cons, List.length_nil]; omega
  case cd => exact B3.out.size
  intro v' w4 ho4 hg4
  have B4 := hid (B3.out.grown hg4 B3.out.size (fun g hg => OwnsB.block O3.out hg))
  obtain ⟨P4, hP4⟩ : ∃ P4, P2 ++ [cx] = P4 := ⟨_, rfl⟩
  replace ho4 : OwnsB w4 W.heap.size v' P4 := by rw [← hP4]; exact ho4
  have hP4l : P4.length = 10 + label.size := by rw [← hP4, List.length_append, HP2l.out]; simp only [List.length_cons, List.length_nil]; omega
  obtain ⟨g, cp, rfl, _, _, _, _, hcl⟩ := OwnsB.cells ho4 (by omega)
  have hcv := conv_string w4 g 0 P4.length cp P4 rfl (fun j hj => by rw [Nat.zero_add]; exact hcl j hj)
  have hX : ((⟨P4.toArray⟩ : ByteArray) ++ ctx).data.toList = besideL label.data.toList ctx.data.toList n := by
    rw [ByteArray.data_append, besideL, ← hP4, ← HP2.out, HLl.out, show label.data.toList.length = label.size by simp, show ctx.data.toList.length = ctx.size by simp, HC6.out, HCXE.out]
    simp
  have hsP : (⟨P4.toArray⟩ : ByteArray).size = 10 + label.size := by rw [← hP4l]; rfl
  have hcall := hid (HEx.out ((⟨P4.toArray⟩ : ByteArray) ++ ctx) w4 (HT.out.keep B4.out) hX)
  have HX := hid hX
  clear ho4 hg4 hcl hX hP4 hP4l O3 HS3 B3 B2 O2
  go_wp2_with fail
  refine hcall.out.mono ?_
  rintro e w5 ⟨⟨u, v, rfl, hR⟩, hb5⟩
  have B5 := hid (below_to B4.out hb5)
  have HR := hid hR
  clear hb5 hcall hR
  go_wp2_with fail
  go_ret2
  exact ⟨⟨_, HX.out, by rw [HR.out]; rfl⟩, B5.out⟩

end Go.Proofs.YtejkimhmpnogkaaDoor

namespace Go.Proofs.YtejkimhmpnogkaaDoor
open Go.RowKit

theorem RLabel_no (key label ctx : ByteArray) (n : Int) (W : World) (h : 249 < label.size ∨ 255 < ctx.size) (h1 : label.size ≤ 140737488351232) (h2 : ctx.size ≤ 140737488351232) :
    Calls Tryd.prog 29 #[.string key, .string label, .string ctx, .int .i64 n] W fun e w' => e = .returned (.tuple #[.string ⟨#[]⟩, .int .i64 2]) ∧ W = w' := by
  by_cases hn : 249 < label.size
  · have d0 : decide ((label.size : Int) > 249) = true := decide_eq_true (by omega)
    go_enter Tryd.func29, Tryd.ntmps29
    go_wp2_with fail
    go_ret2
    exact ⟨rfl, rfl⟩
  · have d0 : decide ((label.size : Int) > 249) = false := decide_eq_false (by omega)
    have d1 : decide ((ctx.size : Int) > 255) = true := decide_eq_true (by omega)
    go_enter Tryd.func29, Tryd.ntmps29
    go_wp2_with fail
    go_ret2
    exact ⟨rfl, rfl⟩

set_option maxRecDepth 100000 in
set_option maxHeartbeats 2000000 in
theorem RLabel_yes (key label ctx : ByteArray) (n : Int) (R : ByteArray → Value) (W : World) (h1 : label.size ≤ 249) (h2 : ctx.size ≤ 255)
    (hE : ∀ (x : ByteArray) (w : World), x.data.toList = besideL label.data.toList ctx.data.toList n → Calls Tryd.prog 26 #[.string key, .string x, .int .i64 n] w fun e w' => (∃ u v, e = .returned (.tuple #[u, v]) ∧ R x = .tuple #[u, v]) ∧ Below w.heap.size w w') :
    Calls Tryd.prog 29 #[.string key, .string label, .string ctx, .int .i64 n] W fun e w' => (∃ x : ByteArray, x.data.toList = besideL label.data.toList ctx.data.toList n ∧ e = .returned (R x)) ∧ Below W.heap.size W w' := by
  have d0 : decide ((label.size : Int) > 249) = false := decide_eq_false (by omega)
  have d1 : decide ((ctx.size : Int) > 255) = false := decide_eq_false (by omega)
  have hb0 := b0_val n
  have hb1 := b1_val n
  have hc6 : ((UInt8.ofNat (6 + label.size)).toNat : Int) = 6 + (label.size : Int) := by
    rw [UInt8.toNat_ofNat_of_lt' (by simp [UInt8.size]; omega)]; omega
  obtain ⟨c6, hc6e⟩ : ∃ c, UInt8.ofNat (6 + label.size) = c := ⟨_, rfl⟩
  rw [hc6e] at hc6
  have hcx : ((UInt8.ofNat ctx.size).toNat : Int) = (ctx.size : Int) := by
    rw [UInt8.toNat_ofNat_of_lt' (by simp [UInt8.size]; omega)]
  obtain ⟨cx, hcxe⟩ : ∃ c, UInt8.ofNat ctx.size = c := ⟨_, rfl⟩
  rw [hcxe] at hcx
  obtain ⟨x0, hx0⟩ : ∃ x, b0 n = x := ⟨_, rfl⟩
  obtain ⟨x1, hx1⟩ : ∃ x, b1 n = x := ⟨_, rfl⟩
  rw [hx0] at hb0
  rw [hx1] at hb1
  have a1 := alloc_at W (.cells #[.int .u8 (n / 256 % 256), .int .u8 (n % 256), .int .u8 (6 + (label.size : Int))] 5)
  have hcv1 := conv_string (W.alloc (.cells #[.int .u8 (n / 256 % 256), .int .u8 (n % 256), .int .u8 (6 + (label.size : Int))] 5)) W.heap.size 0 3 3 [x0, x1, c6] rfl (fun j hj => by
    rw [cell_at a1]
    match j, hj with
    | 0, _ => simp [hb0]
    | 1, _ => simp [hb1]
    | 2, _ => simp [hc6])
  have B1 := below_new (w := W) (.cells #[.int .u8 (n / 256 % 256), .int .u8 (n % 256), .int .u8 (6 + (label.size : Int))] 5)
  have hsz1 : (W.alloc (.cells #[.int .u8 (n / 256 % 256), .int .u8 (n % 256), .int .u8 (6 + (label.size : Int))] 5)).heap.size = W.heap.size + 1 := by simp
  have a2 := alloc_at (W.alloc (.cells #[.int .u8 (n / 256 % 256), .int .u8 (n % 256), .int .u8 (6 + (label.size : Int))] 5)) (.cells #[.int .u8 (ctx.size : Int)] 5)
  rw [hsz1] at a2
  have hcv2 := conv_string ((W.alloc (.cells #[.int .u8 (n / 256 % 256), .int .u8 (n % 256), .int .u8 (6 + (label.size : Int))] 5)).alloc (.cells #[.int .u8 (ctx.size : Int)] 5)) (W.heap.size + 1) 0 1 1 [cx] rfl (fun j hj => by
    have : j = 0 := by omega
    subst this
    rw [cell_at a2, List.getD_cons_zero, hcx]; rfl)
  have B2 := hid (below_alloc B1 (.cells #[.int .u8 (ctx.size : Int)] 5))
  have hX : ((⟨#[x0, x1, c6]⟩ : ByteArray) ++ ⟨#[116, 108, 115, 49, 51, 32]⟩ ++ label ++ ⟨#[cx]⟩ ++ ctx).data.toList = besideL label.data.toList ctx.data.toList n := by
    rw [besideL, show label.data.toList.length = label.size by simp, show ctx.data.toList.length = ctx.size by simp, hc6e, hcxe, hx0, hx1]
    simp
  have hs1 : ((⟨#[x0, x1, c6]⟩ : ByteArray) ++ ⟨#[116, 108, 115, 49, 51, 32]⟩).size = 9 := rfl
  have hs2 : ((⟨#[x0, x1, c6]⟩ : ByteArray) ++ ⟨#[116, 108, 115, 49, 51, 32]⟩ ++ label).size = 9 + label.size := by rw [ByteArray.size_append, hs1]
  have hs3 : ((⟨#[x0, x1, c6]⟩ : ByteArray) ++ ⟨#[116, 108, 115, 49, 51, 32]⟩ ++ label ++ ⟨#[cx]⟩).size = 10 + label.size := by rw [ByteArray.size_append, hs2]; show 9 + label.size + 1 = _; omega
  have hcall := hid (hE _ ((W.alloc (.cells #[.int .u8 (n / 256 % 256), .int .u8 (n % 256), .int .u8 (6 + (label.size : Int))] 5)).alloc (.cells #[.int .u8 (ctx.size : Int)] 5)) hX)
  have HX := hid hX
  clear hX hE a1 a2 B1 hsz1 hb0 hb1 hc6 hcx hc6e hcxe hx0 hx1
  go_enter Tryd.func29, Tryd.ntmps29
  go_wp2_with fail
  refine hcall.out.mono ?_
  rintro e w5 ⟨⟨u, v, rfl, hR⟩, hb5⟩
  have B5 := hid (below_to B2.out hb5)
  have HR := hid hR
  clear hb5 hcall hR
  go_wp2_with fail
  go_ret2
  exact ⟨⟨_, HX.out, by rw [HR.out]; rfl⟩, B5.out⟩

end Go.Proofs.YtejkimhmpnogkaaDoor
