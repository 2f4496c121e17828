/- The walk of the document's Expand. The walk of Label. The walk of the document's Label. Expand and Label at whatever number: one contract each; both sides give the same. The walks of the laws on keys out of keys: small, alive. The walk of small: what texts weigh. The walks of the laws HkdfKeys, HkdfLabels, HkdfBegins. The walks of the laws HkdfLabels and HkdfBegins. The walk of the law HkdfBegins. -/
import Derived.Test.YtejkimhmpnogkaaDoorHkP
import Derived.Test.YtejkimhmpnogkaaDoorSumR2
import Derived.Deep.AppendSrc
import Derived.Test.YtejkimhmpnogkaaDoorHkWW
namespace Go.Proofs.YtejkimhmpnogkaaDoor
open Go.RowKit

theorem RExpand_no (key info : ByteArray) (n : Int) (W : World) (h : n < 0 ∨ 8160 < n) :
    Calls Tryd.prog 26 #[.string key, .string info, .int .i64 n] W fun e w' => e = .returned (.tuple #[.string ⟨#[]⟩, .int .i64 2]) ∧ W = w' := by
  by_cases hn : n < 0
  · have d0 : decide (n < 0) = true := decide_eq_true hn
    go_enter Tryd.func26, Tryd.ntmps26
    go_wp2_with fail
    go_ret2
    exact ⟨rfl, rfl⟩
  · have d0 : decide (n < 0) = false := decide_eq_false hn
    have d1 : decide (n > 8160) = true := decide_eq_true (by omega)
    go_enter Tryd.func26, Tryd.ntmps26
    go_wp2_with fail
    go_ret2
    exact ⟨rfl, rfl⟩

@[go_sem] theorem conv_nil0 (w : World) : (convert 57 9 (.slice none 0 0)).run Tryd.prog w = .ok (.string ⟨#[]⟩) w := by kernel_rfl
theorem ownsB_slice {w : World} {B : Nat} {v : Value} {l : List UInt8} (h : OwnsB w B v l) : ∃ a c, v = .slice a l.length c := by
  rcases h with ⟨rfl, rfl⟩ | ⟨g, cap, cur, fz, rfl, _⟩
  · exact ⟨none, 0, rfl⟩
  · exact ⟨_, _, rfl⟩

set_option maxRecDepth 100000 in
set_option maxHeartbeats 2000000 in
theorem RExpand_yes (key info : ByteArray) (N : Nat) (W : World) (hk : key.size ≤ 68719476736) (hin : info.size ≤ 34359738368) (hN : N ≤ 8160) :
    Calls Tryd.prog 26 #[.string key, .string info, .int .i64 (N : Int)] W fun e w' => e = .returned (.tuple #[.string ⟨(HK.expand key.data.toList info.data.toList N).toArray⟩, .int .i64 0]) ∧ Below W.heap.size W w' := by
  obtain ⟨i0, hi, hz0, hz1, hz2⟩ := info_parts info_u8
  have d0 : decide ((N : Int) < 0) = false := decide_eq_false (by omega)
  have d1 : decide ((N : Int) > 8160) = false := decide_eq_false (by omega)
  go_enter Tryd.func26, Tryd.ntmps26
  go_wp2_with fail
  go_loopw [8, 9, 10] (fun v t i wr => ∃ (k : Nat) (tb : ByteArray), k ≤ 255 ∧ OwnsB wr W.heap.size v (HK.pieces key.data.toList info.data.toList k) ∧ t = .string tb ∧ tb.data.toList = HK.piece key.data.toList info.data.toList k ∧ i = .int .i64 ((k : Int) + 1) ∧ Below W.heap.size W wr ∧ HK.need N ≤ 255)
    (fun _ _ i _ => (256 - intOf i).toNat)
  case atStart => exact ⟨0, ⟨#[]⟩, by omega, OwnsB.nil _ _, rfl, rfl, rfl, Below.refl _ _, by unfold HK.need; omega⟩
  case round =>
    obtain ⟨k, tb, hk5, ho, rfl, htb, rfl, hb, hnd⟩ := hrel
    obtain ⟨a, cp, rfl⟩ := ownsB_slice ho
    rw [HK.pieces_length] at ho ⊢
    by_cases hlt : 32 * k < N
    · have hd : decide (((32 * k : Nat) : Int) < (N : Int)) = true := decide_eq_true (by omega)
      have hm0 : ((k : Int) + 1) % 256 = (k : Int) + 1 := by omega
      have hu : ((UInt8.ofNat (k + 1)).toNat : Int) = (k : Int) + 1 := by
        rw [UInt8.toNat_ofNat_of_lt' (by simp [UInt8.size]; omega)]; omega
      obtain ⟨c, hc⟩ : ∃ c, UInt8.ofNat (k + 1) = c := ⟨_, rfl⟩
      rw [hc] at hu
      have a1 := alloc_at wr (.cells #[.int .u8 ((k : Int) + 1)] 5)
      have b1 := below_new (w := wr) (.cells #[.int .u8 ((k : Int) + 1)] 5)
      have hcv := conv_string (wr.alloc (.cells #[.int .u8 ((k : Int) + 1)] 5)) wr.heap.size 0 1 1 [c] rfl (fun j hj => by
        have : j = 0 := by omega
        subst this
        rw [cell_at a1, List.getD_cons_zero, hu]; rfl)
      have B1 := hid (below_to hb b1)
      have O1 := hid (OwnsB.keep ho b1)
      have hts : tb.size ≤ 32 := by
        have h1 : tb.data.toList.length = tb.size := by simp
        rw [← h1, htb]
        cases k with
        | zero => exact Nat.zero_le _
        | succ n => exact Nat.le_of_eq (HK.piece_length _ _ _)
      have hsz : (tb ++ info ++ (⟨#[c]⟩ : ByteArray)).size ≤ 68719476736 := by
        have h2 : (⟨#[c]⟩ : ByteArray).size = 1 := rfl
        rw [ByteArray.size_append, ByteArray.size_append, h2]; omega
      have htag := hid (RTag_any key (tb ++ info ++ ⟨#[c]⟩) (wr.alloc (.cells #[.int .u8 ((k : Int) + 1)] 5)) hk hsz)
      have hx : SM.tag key.data.toList (tb ++ info ++ (⟨#[c]⟩ : ByteArray)).data.toList = HK.piece key.data.toList info.data.toList (k + 1) := by
        rw [HK.piece, ← htb, hc]; simp
      have HX := hid hx
      have hss : (tb ++ info).size = tb.size + info.size := ByteArray.size_append
      have hs1 : (⟨#[c]⟩ : ByteArray).size = 1 := rfl
      clear hc hu a1 b1 hsz hx htb hb ho
      go_wp2_with fail
      refine htag.out.mono ?_
      rintro e w2 ⟨rfl, hb2⟩
      have B2 := hid (below_to B1.out hb2)
      have O2 := hid (OwnsB.keep O1.out hb2)
      obtain ⟨T, hT⟩ : ∃ T : ByteArray, (⟨(SM.tag key.data.toList (tb ++ info ++ (⟨#[c]⟩ : ByteArray)).data.toList).toArray⟩ : ByteArray) = T := ⟨_, rfl⟩
      have hTl : T.data.toList = HK.piece key.data.toList info.data.toList (k + 1) := by rw [← hT, ← HX.out]
      rw [hT]
      have hTs : T.size = 32 := by rw [← hT]; rfl
      have hla := laid_bytes w2 T
      have b3 := bytesWorld_below w2 5 T
      have hlen3 : T.data.toList.length = 32 := by rw [hTl]; rfl
      have hsrc : Src Tryd.prog 1 57 (.slice (some ⟨w2.heap.size, 0, none⟩) T.size (grownCap w2 T.size 0 5)) T.data.toList.length (u8s T.data.toList) (Lib.bytesWorld w2 5 T) := by
        rw [show T.data.toList.length = T.size by simp]
        refine Src.ofSlice _ Tryd.underlying57 ⟨w2.heap.size, 0, none⟩ _ _ (u8s T.data.toList) (by simp [u8s]) ?_ (by intro u hu; simp [u8s] at hu; obtain ⟨x, _, rfl⟩ := hu; rfl)
        intro j u hj
        have hjl : j < T.data.toList.length := by have := (List.getElem?_eq_some_iff.1 hj).1; simpa [u8s] using this
        have := hla.cell hjl
        rw [Addr.add_mid, Nat.zero_add, this]
        simp [u8s] at hj ⊢
        obtain ⟨x, hx1, hx2⟩ := hj
        rw [← hx2, hx1]; rfl
      have HS := hid hsrc
      have HTL := hid hTl
      have O3 := hid (OwnsB.keep O2.out b3)
      have B3 := hid (below_to B2.out b3)
      have h3 := B3.out.size
      have H3 := hid h3
      have HL3 := hid hlen3
      clear hT hTl hTs hla b3 hb2 htag hsrc hlen3 h3 B1 O1 O2 B2 HX hss hs1 hcv hm0
      go_wp2_with (at_builtin; refine wpList_append_B rfl _ _ 57 57 rfl W.heap.size i0 Tryd.underlying57 hi hz0 hz1 hz2 _ _ rfl rfl _ T.data.toList O3.out HS.out (by rw [HL3.out]; decide) ?ca ?cb ?_)
      case ca => rw [HK.pieces_length, HL3.out]; omega
      case cb => exact H3.out
      intro v' w4 ho4 hg4
      have B4 := hid (B3.out.grown hg4 H3.out (fun g hg => OwnsB.block O3.out hg))
      have O4 := hid ho4
      clear ho4 hg4
      go_wp2_with fail
      go_roundw
      case rel => exact ⟨k + 1, T, by omega, by rw [HK.pieces, ← HTL.out]; exact O4.out, rfl, HTL.out, by go_num, B4.out, hnd⟩
      case measure => simp [intOf]; omega
    · have hd : decide (((32 * k : Nat) : Int) < (N : Int)) = false := decide_eq_false (by omega)
      have hneed : HK.need N ≤ k := by unfold HK.need; omega
      have hfin := HK.expand_of key.data.toList info.data.toList hneed
      have hpl := HK.pieces_length key.data.toList info.data.toList k
      have HF := hid hfin
      have HB := hid hb
      have hn0 : (0 : Int) ≤ (N : Int) := by omega
      rcases ho with ⟨hv, hl⟩ | ⟨g, cap, cur, fz, hv, h2, h3, h4, h5, h6, h7, h8⟩
      · have hk0 : 32 * k = 0 := by rw [← hpl, hl]; rfl
        have hN0 : N = 0 := by omega
        subst hN0
        have hk00 : k = 0 := by omega
        subst hk00
        simp only [Nat.mul_zero, Value.slice.injEq, true_and] at hv
        obtain ⟨rfl, rfl⟩ := hv
        simp only [Nat.mul_zero] at *
        clear hfin hb hl htb hneed hpl
        go_wp2_with fail
        go_ret2
        exact ⟨rfl, HB.out⟩
      · rw [hpl] at hv h5 h8
        obtain ⟨rfl, rfl⟩ : a = some ⟨g, 0, none⟩ ∧ cp = cap := by cases hv; exact ⟨rfl, rfl⟩
        have hcv := conv_string wr g 0 N cp ((HK.pieces key.data.toList info.data.toList k).take N) (by rw [List.length_take, hpl]; omega) (fun j hj => by
          rw [Nat.zero_add, cell_at h3]
          have hj2 : j < 32 * k := by omega
          have e1 : cur.toList[j]? = (u8s (HK.pieces key.data.toList info.data.toList k))[j]? := by
            rw [← h8, List.getElem?_take, if_pos hj2]
          rw [← Array.getElem?_toList, e1]
          have hj3 : j < (HK.pieces key.data.toList info.data.toList k).length := by rw [hpl]; exact hj2
          simp [u8s, hj3, hj])
        rw [hfin] at hcv
        have hn1 : N ≤ cp := by omega
        have hn2 : (N : Int) ≤ (cp : Int) := by omega
        clear hfin hb htb h2 h3 h4 h7 h8 hv
        go_wp2_with fail
        go_ret2
        exact ⟨rfl, HB.out⟩

end Go.Proofs.YtejkimhmpnogkaaDoor

namespace Go.Proofs.YtejkimhmpnogkaaDoor
open Go.RowKit

theorem label_no (key label ctx : ByteArray) (n : Int) (W : World) (h : 249 < label.size ∨ 255 < ctx.size) (h1 : label.size ≤ 140737488351232) (h2 : ctx.size ≤ 140737488351232) :
    Calls Tryd.prog 28 #[.string key, .string label, .string ctx, .int .i64 n] W fun e w' => e = .returned (.tuple #[.string ⟨#[]⟩, .int .i64 2]) ∧ W = w' := by
  by_cases hn : 249 < label.size
  · have d0 : decide ((label.size : Int) > 249) = true := decide_eq_true (by omega)
    go_enter Tryd.func28, Tryd.ntmps28
    go_wp2_with fail
    go_ret2
    exact ⟨rfl, rfl⟩
  · have d0 : decide ((label.size : Int) > 249) = false := decide_eq_false (by omega)
    have d1 : decide ((ctx.size : Int) > 255) = true := decide_eq_true (by omega)
    go_enter Tryd.func28, Tryd.ntmps28
    go_wp2_with fail
    go_ret2
    exact ⟨rfl, rfl⟩

/-- The bytes of a number, as the text has them. -/
def b0 (n : Int) : UInt8 := UInt8.ofNat (n / 256 % 256).toNat
def b1 (n : Int) : UInt8 := UInt8.ofNat (n % 256).toNat
theorem b0_val (n : Int) : ((b0 n).toNat : Int) = n / 256 % 256 := by
  unfold b0; rw [UInt8.toNat_ofNat_of_lt' (by simp [UInt8.size]; omega)]; omega
theorem b1_val (n : Int) : ((b1 n).toNat : Int) = n % 256 := by
  unfold b1; rw [UInt8.toNat_ofNat_of_lt' (by simp [UInt8.size]; omega)]; omega
/-- What stands beside the key, for a label. -/
def besideL (label ctx : List UInt8) (n : Int) : List UInt8 :=
  [b0 n, b1 n, UInt8.ofNat (6 + label.length)] ++ ([116, 108, 115, 49, 51, 32] ++ label) ++ [UInt8.ofNat ctx.length] ++ ctx
theorem src_string (s : ByteArray) (w : World) : Src Tryd.prog 1 9 (.string s) s.data.toList.length (u8s s.data.toList) w := by
  rw [show s.data.toList.length = s.size by simp]
  exact Src.ofString _ u_str s

set_option maxRecDepth 100000 in
set_option maxHeartbeats 2000000 in
theorem label_yes (key label ctx : ByteArray) (n : Int) (R : ByteArray → Value) (W : World) (hT : Tab W) (h1 : label.size ≤ 249) (h2 : ctx.size ≤ 255)
    (hE : ∀ (x : ByteArray) (w : World), Tab w → x.data.toList = besideL label.data.toList ctx.data.toList n → Calls Tryd.prog 25 #[.string key, .string x, .int .i64 n] w fun e w' => (∃ u v, e = .returned (.tuple #[u, v]) ∧ R x = .tuple #[u, v]) ∧ Below w.heap.size w w') :
    Calls Tryd.prog 28 #[.string key, .string label, .string ctx, .int .i64 n] W fun e w' => (∃ x : ByteArray, x.data.toList = besideL label.data.toList ctx.data.toList n ∧ e = .returned (R x)) ∧ Below W.heap.size W w' := by
  obtain ⟨i0, hi, hz0, hz1, hz2⟩ := info_parts i_u8
  have d0 : decide ((label.size : Int) > 249) = false := decide_eq_false (by omega)
  have d1 : decide ((ctx.size : Int) > 255) = false := decide_eq_false (by omega)
  obtain ⟨L, hL⟩ : ∃ L : ByteArray, (({ data := #[116, 108, 115, 49, 51, 32] } : ByteArray) ++ label) = L := ⟨_, rfl⟩
  have hs : L.size = 6 + label.size := by rw [← hL]; exact ByteArray.size_append
  have hLl : L.data.toList = [116, 108, 115, 49, 51, 32] ++ label.data.toList := by rw [← hL]; simp
  have hlen : L.data.toList.length = 6 + label.size := by rw [← hs]; simp
  have hb0 := b0_val n
  have hb1 := b1_val n
  have hc6 : ((UInt8.ofNat (6 + label.size)).toNat : Int) = 6 + (label.size : Int) := by
    rw [UInt8.toNat_ofNat_of_lt' (by simp [UInt8.size]; omega)]; omega
  obtain ⟨c6, hc6e⟩ : ∃ c, UInt8.ofNat (6 + label.size) = c := ⟨_, rfl⟩
  rw [hc6e] at hc6
  have HC6 := hid hc6e
  have hcx : ((UInt8.ofNat ctx.size).toNat : Int) = (ctx.size : Int) := by
    rw [UInt8.toNat_ofNat_of_lt' (by simp [UInt8.size]; omega)]
  have a1 := alloc_at W (.cells #[.int .u8 (n / 256 % 256), .int .u8 (n % 256), .int .u8 (6 + (label.size : Int))] 5)
  have B1 := hid (below_new (w := W) (.cells #[.int .u8 (n / 256 % 256), .int .u8 (n % 256), .int .u8 (6 + (label.size : Int))] 5))
  have O1 : Hid (OwnsB (W.alloc (.cells #[.int .u8 (n / 256 % 256), .int .u8 (n % 256), .int .u8 (6 + (label.size : Int))] 5)) W.heap.size (.slice (some ⟨W.heap.size, 0, none⟩) 3 3) [b0 n, b1 n, c6]) :=
    hid (.inr ⟨_, 3, _, _, rfl, Nat.le_refl _, a1, fun j _ => free_at a1 j, by simp, by unfold maxLen; decide, rfl, by simp [u8s, hb0, hb1, hc6]⟩)
  have HS := hid (src_string L (W.alloc (.cells #[.int .u8 (n / 256 % 256), .int .u8 (n % 256), .int .u8 (6 + (label.size : Int))] 5)))
  have HLen := hid hlen
  have HLl := hid hLl
  have HCX := hid hcx
  have HEx := hid hE
  have HT := hid hT
  clear hlen hLl hb0 hb1 hc6 hc6e a1 hE hT
  go_enter Tryd.func28, Tryd.ntmps28
  go_wp2_with (at_builtin; refine wpList_append_B rfl _ _ 57 9 rfl W.heap.size i0 Tryd.underlying57 hi hz0 hz1 hz2 _ _ rfl rfl _ L.data.toList O1.out HS.out (by rw [HLen.out]; omega) ?ca ?cb ?_)
  case ca => rw [HLen.out]; simp only [List.length_cons, List.length_nil]; omega
  case cb => simp
  intro v' w2 ho2 hg2
  have B2 := hid (B1.out.grown hg2 (by simp) (fun g hg => OwnsB.block O1.out hg))
  obtain ⟨P2, hP2⟩ : ∃ P2, [b0 n, b1 n, c6] ++ L.data.toList = P2 := ⟨_, rfl⟩
  replace ho2 : OwnsB w2 W.heap.size v' P2 := by rw [← hP2]; exact ho2
  have hP2l : P2.length = 9 + label.size := by rw [← hP2, List.length_append, HLen.out]; simp only [List.length_cons, List.length_nil]; omega
  have HP2 := hid hP2
  have HP2l := hid hP2l
  have O2 := hid ho2
  obtain ⟨a2, c2, rfl⟩ := ownsB_slice ho2
  obtain ⟨cx, hcxe⟩ : ∃ c, UInt8.ofNat ctx.size = c := ⟨_, rfl⟩
  rw [hcxe] at hcx
  have HCXE := hid hcxe
  have O3 := hid (OwnsB.keep O2.out (below_new (w := w2) (.cells #[.int .u8 (ctx.size : Int)] 5)))
  have B3 := hid (below_alloc B2.out (.cells #[.int .u8 (ctx.size : Int)] 5))
  have hsrc : Src Tryd.prog 1 57 (.slice (some ⟨w2.heap.size, 0, none⟩) 1 1) 1 (u8s [cx]) (w2.alloc (.cells #[.int .u8 (ctx.size : Int)] 5)) :=
    Src.ofSlice _ Tryd.underlying57 ⟨w2.heap.size, 0, none⟩ 1 1 (u8s [cx]) rfl (by
      have := cell_one_new w2 (.int .u8 (ctx.size : Int)) 5
      simpa [u8s, hcx] using this) (by intro u hu; simp [u8s] at hu; subst hu; rfl)
  have HS3 := hid hsrc
  clear hsrc ho2 hg2 O1 HS B1 hcx hcxe hP2 hP2l
  go_wp2_with (at_builtin; refine wpList_append_B rfl _ _ 57 57 rfl W.heap.size i0 Tryd.underlying57 hi hz0 hz1 hz2 _ _ rfl rfl _ [cx] O3.out HS3.out (Nat.succ_pos 0) ?cc ?cd ?_)
  case cc => rw [HP2l.out]; simp only [List.length_cons, List.length_nil]; omega
  case cd => exact B3.out.size
  intro v' w4 ho4 hg4
  have B4 := hid (B3.out.grown hg4 B3.out.size (fun g hg => OwnsB.block O3.out hg))
  obtain ⟨P4, hP4⟩ : ∃ P4, P2 ++ [cx] = P4 := ⟨_, rfl⟩
  replace ho4 : OwnsB w4 W.heap.size v' P4 := by rw [← hP4]; exact ho4
  have hP4l : P4.length = 10 + label.size := by rw [← hP4, List.length_append, HP2l.out]; simp only [List.length_cons, List.length_nil]; omega
  obtain ⟨g, cp, rfl, _, _, _, _, hcl⟩ := OwnsB.cells ho4 (by omega)
  have hcv := conv_string w4 g 0 P4.length cp P4 rfl (fun j hj => by rw [Nat.zero_add]; exact hcl j hj)
  have hX : ((⟨P4.toArray⟩ : ByteArray) ++ ctx).data.toList = besideL label.data.toList ctx.data.toList n := by
    rw [ByteArray.data_append, besideL, ← hP4, ← HP2.out, HLl.out, show label.data.toList.length = label.size by simp, show ctx.data.toList.length = ctx.size by simp, HC6.out, HCXE.out]
    simp
  have hsP : (⟨P4.toArray⟩ : ByteArray).size = 10 + label.size := by rw [← hP4l]; rfl
  have hcall := hid (HEx.out ((⟨P4.toArray⟩ : ByteArray) ++ ctx) w4 (HT.out.keep B4.out) hX)
  have HX := hid hX
  clear ho4 hg4 hcl hX hP4 hP4l O3 HS3 B3 B2 O2
  go_wp2_with fail
  refine hcall.out.mono ?_
  rintro e w5 ⟨⟨u, v, rfl, hR⟩, hb5⟩
  have B5 := hid (below_to B4.out hb5)
  have HR := hid hR
  clear hb5 hcall hR
  go_wp2_with fail
  go_ret2
  exact ⟨⟨_, HX.out, by rw [HR.out]; rfl⟩, B5.out⟩

end Go.Proofs.YtejkimhmpnogkaaDoor

namespace Go.Proofs.YtejkimhmpnogkaaDoor
open Go.RowKit

theorem RLabel_no (key label ctx : ByteArray) (n : Int) (W : World) (h : 249 < label.size ∨ 255 < ctx.size) (h1 : label.size ≤ 140737488351232) (h2 : ctx.size ≤ 140737488351232) :
    Calls Tryd.prog 29 #[.string key, .string label, .string ctx, .int .i64 n] W fun e w' => e = .returned (.tuple #[.string ⟨#[]⟩, .int .i64 2]) ∧ W = w' := by
  by_cases hn : 249 < label.size
  · have d0 : decide ((label.size : Int) > 249) = true := decide_eq_true (by omega)
    go_enter Tryd.func29, Tryd.ntmps29
    go_wp2_with fail
    go_ret2
    exact ⟨rfl, rfl⟩
  · have d0 : decide ((label.size : Int) > 249) = false := decide_eq_false (by omega)
    have d1 : decide ((ctx.size : Int) > 255) = true := decide_eq_true (by omega)
    go_enter Tryd.func29, Tryd.ntmps29
    go_wp2_with fail
    go_ret2
    exact ⟨rfl, rfl⟩

set_option maxRecDepth 100000 in
set_option maxHeartbeats 2000000 in
theorem RLabel_yes (key label ctx : ByteArray) (n : Int) (R : ByteArray → Value) (W : World) (h1 : label.size ≤ 249) (h2 : ctx.size ≤ 255)
    (hE : ∀ (x : ByteArray) (w : World), x.data.toList = besideL label.data.toList ctx.data.toList n → Calls Tryd.prog 26 #[.string key, .string x, .int .i64 n] w fun e w' => (∃ u v, e = .returned (.tuple #[u, v]) ∧ R x = .tuple #[u, v]) ∧ Below w.heap.size w w') :
    Calls Tryd.prog 29 #[.string key, .string label, .string ctx, .int .i64 n] W fun e w' => (∃ x : ByteArray, x.data.toList = besideL label.data.toList ctx.data.toList n ∧ e = .returned (R x)) ∧ Below W.heap.size W w' := by
  have d0 : decide ((label.size : Int) > 249) = false := decide_eq_false (by omega)
  have d1 : decide ((ctx.size : Int) > 255) = false := decide_eq_false (by omega)
  have hb0 := b0_val n
  have hb1 := b1_val n
  have hc6 : ((UInt8.ofNat (6 + label.size)).toNat : Int) = 6 + (label.size : Int) := by
    rw [UInt8.toNat_ofNat_of_lt' (by simp [UInt8.size]; omega)]; omega
  obtain ⟨c6, hc6e⟩ : ∃ c, UInt8.ofNat (6 + label.size) = c := ⟨_, rfl⟩
  rw [hc6e] at hc6
  have hcx : ((UInt8.ofNat ctx.size).toNat : Int) = (ctx.size : Int) := by
    rw [UInt8.toNat_ofNat_of_lt' (by simp [UInt8.size]; omega)]
  obtain ⟨cx, hcxe⟩ : ∃ c, UInt8.ofNat ctx.size = c := ⟨_, rfl⟩
  rw [hcxe] at hcx
  obtain ⟨x0, hx0⟩ : ∃ x, b0 n = x := ⟨_, rfl⟩
  obtain ⟨x1, hx1⟩ : ∃ x, b1 n = x := ⟨_, rfl⟩
  rw [hx0] at hb0
  rw [hx1] at hb1
  have a1 := alloc_at W (.cells #[.int .u8 (n / 256 % 256), .int .u8 (n % 256), .int .u8 (6 + (label.size : Int))] 5)
  have hcv1 := conv_string (W.alloc (.cells #[.int .u8 (n / 256 % 256), .int .u8 (n % 256), .int .u8 (6 + (label.size : Int))] 5)) W.heap.size 0 3 3 [x0, x1, c6] rfl (fun j hj => by
    rw [cell_at a1]
    match j, hj with
    | 0, _ => simp [hb0]
    | 1, _ => simp [hb1]
    | 2, _ => simp [hc6])
  have B1 := below_new (w := W) (.cells #[.int .u8 (n / 256 % 256), .int .u8 (n % 256), .int .u8 (6 + (label.size : Int))] 5)
  have hsz1 : (W.alloc (.cells #[.int .u8 (n / 256 % 256), .int .u8 (n % 256), .int .u8 (6 + (label.size : Int))] 5)).heap.size = W.heap.size + 1 := by simp
  have a2 := alloc_at (W.alloc (.cells #[.int .u8 (n / 256 % 256), .int .u8 (n % 256), .int .u8 (6 + (label.size : Int))] 5)) (.cells #[.int .u8 (ctx.size : Int)] 5)
  rw [hsz1] at a2
  have hcv2 := conv_string ((W.alloc (.cells #[.int .u8 (n / 256 % 256), .int .u8 (n % 256), .int .u8 (6 + (label.size : Int))] 5)).alloc (.cells #[.int .u8 (ctx.size : Int)] 5)) (W.heap.size + 1) 0 1 1 [cx] rfl (fun j hj => by
    have : j = 0 := by omega
    subst this
    rw [cell_at a2, List.getD_cons_zero, hcx]; rfl)
  have B2 := hid (below_alloc B1 (.cells #[.int .u8 (ctx.size : Int)] 5))
  have hX : ((⟨#[x0, x1, c6]⟩ : ByteArray) ++ ⟨#[116, 108, 115, 49, 51, 32]⟩ ++ label ++ ⟨#[cx]⟩ ++ ctx).data.toList = besideL label.data.toList ctx.data.toList n := by
    rw [besideL, show label.data.toList.length = label.size by simp, show ctx.data.toList.length = ctx.size by simp, hc6e, hcxe, hx0, hx1]
    simp
  have hs1 : ((⟨#[x0, x1, c6]⟩ : ByteArray) ++ ⟨#[116, 108, 115, 49, 51, 32]⟩).size = 9 := rfl
  have hs2 : ((⟨#[x0, x1, c6]⟩ : ByteArray) ++ ⟨#[116, 108, 115, 49, 51, 32]⟩ ++ label).size = 9 + label.size := by rw [ByteArray.size_append, hs1]
  have hs3 : ((⟨#[x0, x1, c6]⟩ : ByteArray) ++ ⟨#[116, 108, 115, 49, 51, 32]⟩ ++ label ++ ⟨#[cx]⟩).size = 10 + label.size := by rw [ByteArray.size_append, hs2]; show 9 + label.size + 1 = _; omega
  have hcall := hid (hE _ ((W.alloc (.cells #[.int .u8 (n / 256 % 256), .int .u8 (n % 256), .int .u8 (6 + (label.size : Int))] 5)).alloc (.cells #[.int .u8 (ctx.size : Int)] 5)) hX)
  have HX := hid hX
  clear hX hE a1 a2 B1 hsz1 hb0 hb1 hc6 hcx hc6e hcxe hx0 hx1
  go_enter Tryd.func29, Tryd.ntmps29
  go_wp2_with fail
  refine hcall.out.mono ?_
  rintro e w5 ⟨⟨u, v, rfl, hR⟩, hb5⟩
  have B5 := hid (below_to B2.out hb5)
  have HR := hid hR
  clear hb5 hcall hR
  go_wp2_with fail
  go_ret2
  exact ⟨⟨_, HX.out, by rw [HR.out]; rfl⟩, B5.out⟩

end Go.Proofs.YtejkimhmpnogkaaDoor

namespace Go.Proofs.YtejkimhmpnogkaaDoor
open Go.RowKit

/-- What Expand gives. -/
def XS (key info : List UInt8) (n : Int) : ByteArray := if n < 0 ∨ 8160 < n then ⟨#[]⟩ else ⟨(HK.expand key info n.toNat).toArray⟩
def XE (n : Int) : Int := if n < 0 ∨ 8160 < n then 2 else 0

theorem expand_all (key info : ByteArray) (n : Int) (W : World) (hT : Tab W) (hk : key.size ≤ 68719476736) (hi : info.size ≤ 34359738368) :
    Calls Tryd.prog 25 #[.string key, .string info, .int .i64 n] W fun e w' => e = .returned (.tuple #[.string (XS key.data.toList info.data.toList n), .int .i64 (XE n)]) ∧ Below W.heap.size W w' := by
  unfold XS XE
  split
  · rename_i h; exact expand_no key info n W h
  · rename_i h
    obtain ⟨N, rfl⟩ : ∃ N : Nat, n = (N : Int) := ⟨n.toNat, by omega⟩
    exact expand_yes key info N W hT hk hi (by omega)
theorem RExpand_all (key info : ByteArray) (n : Int) (W : World) (hk : key.size ≤ 68719476736) (hi : info.size ≤ 34359738368) :
    Calls Tryd.prog 26 #[.string key, .string info, .int .i64 n] W fun e w' => e = .returned (.tuple #[.string (XS key.data.toList info.data.toList n), .int .i64 (XE n)]) ∧ Below W.heap.size W w' := by
  unfold XS XE
  split
  · rename_i h
    refine (RExpand_no key info n W h).mono ?_
    rintro e w' ⟨rfl, rfl⟩
    exact ⟨rfl, Below.refl _ _⟩
  · rename_i h
    obtain ⟨N, rfl⟩ : ∃ N : Nat, n = (N : Int) := ⟨n.toNat, by omega⟩
    exact RExpand_yes key info N W hk hi (by omega)

def LS (key label ctx : List UInt8) (n : Int) : ByteArray := if 249 < label.length ∨ 255 < ctx.length then ⟨#[]⟩ else XS key (besideL label ctx n) n
def LE (label ctx : List UInt8) (n : Int) : Int := if 249 < label.length ∨ 255 < ctx.length then 2 else XE n
theorem besideL_size {x label ctx : ByteArray} {n : Int} (h : x.data.toList = besideL label.data.toList ctx.data.toList n) (h1 : label.size ≤ 249) (h2 : ctx.size ≤ 255) : x.size ≤ 34359738368 := by
  have e : x.data.toList.length = x.size := by simp
  have e1 : label.data.toList.length = label.size := by simp
  have e2 : ctx.data.toList.length = ctx.size := by simp
  rw [← e, h, besideL]
  simp only [List.length_append, List.length_cons, List.length_nil, e1, e2]
  omega
theorem label_all (key label ctx : ByteArray) (n : Int) (W : World) (hT : Tab W) (hk : key.size ≤ 68719476736) (h1 : label.size ≤ 140737488351232) (h2 : ctx.size ≤ 140737488351232) :
    Calls Tryd.prog 28 #[.string key, .string label, .string ctx, .int .i64 n] W fun e w' => e = .returned (.tuple #[.string (LS key.data.toList label.data.toList ctx.data.toList n), .int .i64 (LE label.data.toList ctx.data.toList n)]) ∧ Below W.heap.size W w' := by
  have e1 : label.data.toList.length = label.size := by simp
  have e2 : ctx.data.toList.length = ctx.size := by simp
  unfold LS LE
  rw [e1, e2]
  split
  · rename_i h
    refine (label_no key label ctx n W h h1 h2).mono ?_
    rintro e w' ⟨rfl, rfl⟩
    exact ⟨rfl, Below.refl _ _⟩
  · rename_i h
    refine (label_yes key label ctx n (fun x => .tuple #[.string (XS key.data.toList x.data.toList n), .int .i64 (XE n)]) W hT (by omega) (by omega) (fun x w hT hx =>
      (expand_all key x n w hT hk (besideL_size hx (by omega) (by omega))).mono (by rintro e w' ⟨rfl, hb⟩; exact ⟨⟨_, _, rfl, rfl⟩, hb⟩))).mono ?_
    rintro e w' ⟨⟨x, hx, rfl⟩, hb⟩
    exact ⟨by rw [hx], hb⟩

theorem RLabel_all (key label ctx : ByteArray) (n : Int) (W : World) (hk : key.size ≤ 68719476736) (h1 : label.size ≤ 140737488351232) (h2 : ctx.size ≤ 140737488351232) :
    Calls Tryd.prog 29 #[.string key, .string label, .string ctx, .int .i64 n] W fun e w' => e = .returned (.tuple #[.string (LS key.data.toList label.data.toList ctx.data.toList n), .int .i64 (LE label.data.toList ctx.data.toList n)]) ∧ Below W.heap.size W w' := by
  have e1 : label.data.toList.length = label.size := by simp
  have e2 : ctx.data.toList.length = ctx.size := by simp
  unfold LS LE
  rw [e1, e2]
  split
  · rename_i h
    refine (RLabel_no key label ctx n W h h1 h2).mono ?_
    rintro e w' ⟨rfl, rfl⟩
    exact ⟨rfl, Below.refl _ _⟩
  · rename_i h
    refine (RLabel_yes key label ctx n (fun x => .tuple #[.string (XS key.data.toList x.data.toList n), .int .i64 (XE n)]) W (by omega) (by omega) (fun x w hx =>
      (RExpand_all key x n w hk (besideL_size hx (by omega) (by omega))).mono (by rintro e w' ⟨rfl, hb⟩; exact ⟨⟨_, _, rfl, rfl⟩, hb⟩))).mono ?_
    rintro e w' ⟨⟨x, hx, rfl⟩, hb⟩
    exact ⟨by rw [hx], hb⟩

end Go.Proofs.YtejkimhmpnogkaaDoor

namespace Go.Proofs.YtejkimhmpnogkaaDoor
open Go.RowKit

theorem bes_key : besideL [107, 101, 121] [] 16 = [0, 16, 9, 116, 108, 115, 49, 51, 32, 107, 101, 121, 0] := by decide +kernel

set_option maxHeartbeats 2000000 in
theorem hk_alive (W : World) (hT : Tab W) : Calls Tryd.prog 24 #[] W fun e w' => e = .returned (.bool true) ∧ Below W.heap.size W w' := by
  have h1 := label_all ⟨#[107]⟩ ⟨#[107, 101, 121]⟩ ⟨#[]⟩ 16 W hT (by decide) (by decide) (by decide)
  have e1 : LS (⟨#[107]⟩ : ByteArray).data.toList (⟨#[107, 101, 121]⟩ : ByteArray).data.toList (⟨#[]⟩ : ByteArray).data.toList 16 = XS [107] [0, 16, 9, 116, 108, 115, 49, 51, 32, 107, 101, 121, 0] 16 := by
    rw [← bes_key]; rfl
  rw [e1] at h1
  obtain ⟨X, hX⟩ : ∃ X, XS [107] [0, 16, 9, 116, 108, 115, 49, 51, 32, 107, 101, 121, 0] 16 = X := ⟨_, rfl⟩
  have hXs : X.size = 16 := by
    rw [← hX]; show (HK.expand _ _ _).toArray.size = 16; simp [HK.expand_length]
  rw [hX] at h1
  have e2 : LE (⟨#[107, 101, 121]⟩ : ByteArray).data.toList (⟨#[]⟩ : ByteArray).data.toList 16 = 0 := rfl
  rw [e2] at h1
  have HX := hid hX
  have HT := hid hT
  clear hX hT e1 e2
  go_enter Tryd.func24, Tryd.ntmps24
  go_wp2_with fail
  refine h1.mono ?_
  rintro e w1 ⟨rfl, hb1⟩
  have T1 := hid (HT.out.keep hb1)
  have B1 := hid hb1
  clear h1 hb1
  have h2 := expand_all ⟨#[107]⟩ ⟨#[0, 16, 9, 116, 108, 115, 49, 51, 32, 107, 101, 121, 0]⟩ 16 w1 T1.out (by decide) (by decide)
  rw [show XS (⟨#[107]⟩ : ByteArray).data.toList (⟨#[0, 16, 9, 116, 108, 115, 49, 51, 32, 107, 101, 121, 0]⟩ : ByteArray).data.toList 16 = X from HX.out, show XE 16 = 0 from rfl] at h2
  go_wp2_with fail
  refine h2.mono ?_
  rintro e w2 ⟨rfl, hb2⟩
  have T2 := hid (T1.out.keep hb2)
  have B2 := hid (below_to B1.out hb2)
  clear h2 hb2
  have h3 := expand_all ⟨#[107]⟩ ⟨#[105]⟩ 8161 w2 T2.out (by decide) (by decide)
  rw [show XS (⟨#[107]⟩ : ByteArray).data.toList (⟨#[105]⟩ : ByteArray).data.toList 8161 = ⟨#[]⟩ from rfl, show XE 8161 = 2 from rfl] at h3
  go_wp2_with fail
  refine h3.mono ?_
  rintro e w3 ⟨rfl, hb3⟩
  have T3 := hid (T2.out.keep hb3)
  have B3 := hid (below_to B2.out hb3)
  clear h3 hb3
  have h4 := hid (extract_any ⟨#[107]⟩ ⟨#[115]⟩ w3 T3.out (by decide) (by decide))
  go_wp2_with fail
  refine h4.out.mono ?_
  rintro e w4 ⟨rfl, hb4⟩
  have B4 := hid (below_to B3.out hb4)
  have h5 := hid (RTag_any ⟨#[107]⟩ ⟨#[115]⟩ w4 (by decide) (by decide))
  clear h4 hb4
  go_wp2_with fail
  refine h5.out.mono ?_
  rintro e w5 ⟨rfl, hb5⟩
  have B5 := hid (below_to B4.out hb5)
  clear h5 hb5
  go_wp2_with fail
  go_ret
  exact ⟨rfl, B5.out⟩

end Go.Proofs.YtejkimhmpnogkaaDoor

namespace Go.Proofs.YtejkimhmpnogkaaDoor
open Go.RowKit

/-- What texts weigh. -/
def lsum (ss : List ByteArray) : Nat := (ss.map fun s => s.size).sum
theorem lsum_snoc (ss : List ByteArray) (s : ByteArray) : lsum (ss ++ [s]) = lsum ss + s.size := by simp [lsum]
theorem lsum_take (ss : List ByteArray) (k : Nat) (h : k < ss.length) : lsum (ss.take (k + 1)) = lsum (ss.take k) + (ss.getD k ByteArray.empty).size := by
  rw [List.take_succ_eq_append_getElem h, lsum_snoc]; simp [h]
theorem lsum_le (ss : List ByteArray) (k : Nat) : lsum (ss.take k) ≤ lsum ss := by
  have : lsum ss = lsum (ss.take k) + lsum (ss.drop k) := by unfold lsum; rw [← List.sum_append, ← List.map_append, List.take_append_drop]
  omega

set_option maxHeartbeats 1000000 in
theorem hsmall_any (ss : List ByteArray) (a : Option Addr) (cap : Nat) (W : World) (hm : ss.length ≤ 9223372036854775807) (hsz : ∀ j, j < ss.length → (ss.getD j ByteArray.empty).size ≤ 140737488351232)
    (ha : ss.length = 0 ∨ ∃ b off, a = some ⟨b, off, none⟩ ∧ ∀ j, j < ss.length → W.cell? ⟨b, off + j, none⟩ = some (.string (ss.getD j ByteArray.empty))) :
    Calls Tryd.prog 23 #[.slice a ss.length cap] W fun e w' => e = .returned (.bool (decide (lsum ss ≤ 2048))) ∧ W = w' := by
  have HA := hid ha
  have HZ := hid hsz
  clear ha hsz
  obtain ⟨len, hlen⟩ : ∃ len, ss.length = len := ⟨_, rfl⟩
  rw [hlen] at hm HA HZ ⊢
  have HL := hid hlen
  clear hlen
  go_enter Tryd.func23, Tryd.ntmps23
  go_wp2_with fail
  go_loop [3, 4] (fun n i => ∃ k : Nat, k ≤ len ∧ i = .int .i64 (k : Int) ∧ n = .int .i64 ((lsum (ss.take k) : Nat) : Int) ∧ lsum (ss.take k) ≤ 140737488355000) (fun _ i => (len - intOf i).toNat)
  case atStart => exact ⟨0, Nat.zero_le _, rfl, rfl, by simp [lsum]⟩
  case round =>
    obtain ⟨k, hk, rfl, rfl, hn⟩ := hrel
    have hle := lsum_le ss k
    by_cases hlt : k < len
    · have hd : decide ((k : Int) < (len : Int)) = true := decide_eq_true (by omega)
      have hst := lsum_take ss k (by rw [HL.out]; exact hlt)
      by_cases hn2 : lsum (ss.take k) ≤ 2048
      · have hd2 : decide (((lsum (ss.take k) : Nat) : Int) ≤ 2048) = true := decide_eq_true (by omega)
        obtain ⟨b, off, rfl, hc⟩ := HA.out.resolve_left (by omega)
        have ck := hc k hlt
        have hsk := HZ.out k hlt
        have hk0 : 0 ≤ (k : Int) := by omega
        have hk1 : (k : Int) < (len : Int) := by omega
        generalize ss.getD k ByteArray.empty = sk at *
        generalize lsum (ss.take k) = n at *
        have HST := hid hst
        clear hst hc hle
        go_wp2_with fail
        go_round
        case rel => exact ⟨k + 1, by omega, by go_num, by rw [HST.out]; go_num, by rw [HST.out]; omega⟩
        case measure => simp [intOf]; omega
      · have hd2 : decide (((lsum (ss.take k) : Nat) : Int) ≤ 2048) = false := decide_eq_false (by omega)
        have hfin : decide (lsum ss ≤ 2048) = false := decide_eq_false (by omega)
        have HF := hid hfin
        clear hst hle hfin
        generalize lsum (ss.take k) = n at *
        go_wp2_with fail
        go_ret
        exact ⟨by rw [HF.out]; rfl, rfl⟩
    · have hd : decide ((k : Int) < (len : Int)) = false := decide_eq_false (by omega)
      have hkl : k = len := by omega
      have hta : ss.take k = ss := by rw [hkl, ← HL.out, List.take_length]
      rw [hta]
      by_cases hn2 : lsum ss ≤ 2048
      · have hd2 : decide (((lsum ss : Nat) : Int) ≤ 2048) = true := decide_eq_true (by omega)
        have hfin : decide (lsum ss ≤ 2048) = true := decide_eq_true hn2
        clear hle hta hn
        obtain ⟨n, hn⟩ : ∃ n, lsum ss = n := ⟨_, rfl⟩
        rw [hn] at hn2 hd2 hfin ⊢
        have HN := hid hn
        have HF := hid hfin
        clear hn hfin
        go_wp2_with fail
        go_ret
        exact ⟨by rw [HN.out, HF.out]; rfl, rfl⟩
      · have hd2 : decide (((lsum ss : Nat) : Int) ≤ 2048) = false := decide_eq_false (by omega)
        have hfin : decide (lsum ss ≤ 2048) = false := decide_eq_false hn2
        clear hle hta hn
        obtain ⟨n, hn⟩ : ∃ n, lsum ss = n := ⟨_, rfl⟩
        rw [hn] at hn2 hd2 hfin ⊢
        have HN := hid hn
        have HF := hid hfin
        clear hn hfin
        go_wp2_with fail
        go_ret
        exact ⟨by rw [HN.out, HF.out]; rfl, rfl⟩

theorem hsmall_two (s t : ByteArray) (b : Nat) (W : World) (hs : s.size ≤ 140737488351232) (ht : t.size ≤ 140737488351232) (hc : W.cell? ⟨b, 0, none⟩ = some (.string s)) (hd : W.cell? ⟨b, 1, none⟩ = some (.string t)) :
    Calls Tryd.prog 23 #[.slice (some ⟨b, 0, none⟩) 2 2] W fun e w' => e = .returned (.bool (decide (s.size + t.size ≤ 2048))) ∧ W = w' := by
  have h := hsmall_any [s, t] (some ⟨b, 0, none⟩) 2 W (by simp) (fun j hj => by
    match j, hj with
    | 0, _ => exact hs
    | 1, _ => exact ht) (.inr ⟨b, 0, rfl, fun j hj => by
    match j, hj with
    | 0, _ => exact hc
    | 1, _ => exact hd⟩)
  have e : lsum [s, t] = s.size + t.size := by simp [lsum]
  rw [e] at h
  exact h
theorem hsmall_three (s t u : ByteArray) (b : Nat) (W : World) (hs : s.size ≤ 140737488351232) (ht : t.size ≤ 140737488351232) (hu : u.size ≤ 140737488351232) (hc : W.cell? ⟨b, 0, none⟩ = some (.string s)) (hd : W.cell? ⟨b, 1, none⟩ = some (.string t)) (he : W.cell? ⟨b, 2, none⟩ = some (.string u)) :
    Calls Tryd.prog 23 #[.slice (some ⟨b, 0, none⟩) 3 3] W fun e w' => e = .returned (.bool (decide (s.size + t.size + u.size ≤ 2048))) ∧ W = w' := by
  have h := hsmall_any [s, t, u] (some ⟨b, 0, none⟩) 3 W (by simp) (fun j hj => by
    match j, hj with
    | 0, _ => exact hs
    | 1, _ => exact ht
    | 2, _ => exact hu) (.inr ⟨b, 0, rfl, fun j hj => by
    match j, hj with
    | 0, _ => exact hc
    | 1, _ => exact hd
    | 2, _ => exact he⟩)
  have e : lsum [s, t, u] = s.size + t.size + u.size := by simp [lsum]; omega
  rw [e] at h
  exact h

end Go.Proofs.YtejkimhmpnogkaaDoor

namespace Go.Proofs.YtejkimhmpnogkaaDoor
open Go.RowKit

set_option maxRecDepth 100000 in
set_option maxHeartbeats 2000000 in
theorem keys_any (key info : ByteArray) (n : Int) (W : World) (hT : Tab W) (hk : key.size ≤ 140737488351232) (hs : info.size ≤ 140737488351232) : Calls Tryd.prog 7 #[.string key, .string info, .int .i64 n] W fun e w' => e = .returned (.bool true) ∧ Below W.heap.size W w' := by
  have T1 := hid (hT.keep (below_new (w := W) (.cells #[.string key, .string info] 9)))
  have B1 := hid (below_new (w := W) (.cells #[.string key, .string info] 9))
  have hsm := hsmall_two key info W.heap.size _ hk hs (cell_at (alloc_at W (.cells #[.string key, .string info] 9)) 0) (cell_at (alloc_at W (.cells #[.string key, .string info] 9)) 1)
  clear hT
  by_cases hc : key.size + info.size ≤ 2048
  · rw [decide_eq_true hc] at hsm
    have HSM := hid hsm
    clear hsm
    by_cases hn : n > 512
    · have d0 : decide (n > 512) = true := decide_eq_true hn
      by_cases hn2 : n ≤ 8160
      · have d1 : decide (n ≤ 8160) = true := decide_eq_true hn2
        go_enter Tryd.func7, Tryd.ntmps7
        go_wp2_with fail
        refine HSM.out.mono ?_
        rintro e w' ⟨rfl, rfl⟩
        go_wp2_with fail
        refine (hk_alive _ T1.out).mono ?_
        rintro e w4 ⟨rfl, hb4⟩
        go_wp2_with fail
        go_ret
        exact ⟨rfl, below_to B1.out hb4⟩
      · have d1 : decide (n ≤ 8160) = false := decide_eq_false hn2
        have e1 : XS key.data.toList info.data.toList n = ByteArray.empty := by unfold XS; rw [if_pos (.inr (by omega))]; rfl
        have e2 : XE n = 2 := by unfold XE; rw [if_pos (.inr (by omega))]
        go_enter Tryd.func7, Tryd.ntmps7
        go_wp2_with fail
        refine HSM.out.mono ?_
        rintro e w' ⟨rfl, rfl⟩
        go_wp2_with fail
        obtain ⟨w0, hw0⟩ : ∃ w0, W.alloc (.cells #[.string key, .string info] 9) = w0 := ⟨_, rfl⟩
        rw [hw0] at T1 B1 ⊢
        clear hw0
        have H2 := hid (expand_all key info n w0 T1.out (by omega) (by omega))
        go_wp2_with fail
        refine H2.out.mono ?_
        rintro e w2 ⟨rfl, hb2⟩
        have T2 := hid (T1.out.keep hb2)
        have B2 := hid (below_to B1.out hb2)
        clear hb2 H2 T1 B1
        have H3 := hid (RExpand_all key info n w2 (by omega) (by omega))
        go_wp2_with fail
        refine H3.out.mono ?_
        rintro e w3 ⟨rfl, hb3⟩
        have T3 := hid (T2.out.keep hb3)
        have B3 := hid (below_to B2.out hb3)
        clear hb3 H3 T2 B2
        have H4 := hid (extract_any key info w3 T3.out (by omega) (by omega))
        go_wp2_with fail
        refine H4.out.mono ?_
        rintro e w4 ⟨rfl, hb4⟩
        have T4 := hid (T3.out.keep hb4)
        have B4 := hid (below_to B3.out hb4)
        clear hb4 H4 T3 B3
        have H5 := hid (RTag_any key info w4 (by omega) (by omega))
        go_wp2_with fail
        refine H5.out.mono ?_
        rintro e w5 ⟨rfl, hb5⟩
        have T5 := hid (T4.out.keep hb5)
        have B5 := hid (below_to B4.out hb5)
        clear hb5 H5 T4 B4
        go_wp2_with fail
        refine (hk_alive _ T5.out).mono ?_
        rintro e w6 ⟨rfl, hb6⟩
        go_wp2_with fail
        go_ret
        exact ⟨rfl, below_to B5.out hb6⟩
    · have d0 : decide (n > 512) = false := decide_eq_false hn
      obtain ⟨X, hX⟩ : ∃ X, XS key.data.toList info.data.toList n = X := ⟨_, rfl⟩
      obtain ⟨E, hE⟩ : ∃ E, XE n = E := ⟨_, rfl⟩
      go_enter Tryd.func7, Tryd.ntmps7
      go_wp2_with fail
      refine HSM.out.mono ?_
      rintro e w' ⟨rfl, rfl⟩
      go_wp2_with fail
      obtain ⟨w0, hw0⟩ : ∃ w0, W.alloc (.cells #[.string key, .string info] 9) = w0 := ⟨_, rfl⟩
      rw [hw0] at T1 B1 ⊢
      clear hw0
      have H2 := hid (expand_all key info n w0 T1.out (by omega) (by omega))
      go_wp2_with fail
      refine H2.out.mono ?_
      rintro e w2 ⟨rfl, hb2⟩
      have T2 := hid (T1.out.keep hb2)
      have B2 := hid (below_to B1.out hb2)
      clear hb2 H2 T1 B1
      have H3 := hid (RExpand_all key info n w2 (by omega) (by omega))
      go_wp2_with fail
      refine H3.out.mono ?_
      rintro e w3 ⟨rfl, hb3⟩
      have T3 := hid (T2.out.keep hb3)
      have B3 := hid (below_to B2.out hb3)
      clear hb3 H3 T2 B2
      have H4 := hid (extract_any key info w3 T3.out (by omega) (by omega))
      go_wp2_with fail
      refine H4.out.mono ?_
      rintro e w4 ⟨rfl, hb4⟩
      have T4 := hid (T3.out.keep hb4)
      have B4 := hid (below_to B3.out hb4)
      clear hb4 H4 T3 B3
      have H5 := hid (RTag_any key info w4 (by omega) (by omega))
      go_wp2_with fail
      refine H5.out.mono ?_
      rintro e w5 ⟨rfl, hb5⟩
      have T5 := hid (T4.out.keep hb5)
      have B5 := hid (below_to B4.out hb5)
      clear hb5 H5 T4 B4
      go_wp2_with fail
      refine (hk_alive _ T5.out).mono ?_
      rintro e w6 ⟨rfl, hb6⟩
      go_wp2_with fail
      go_ret
      exact ⟨rfl, below_to B5.out hb6⟩
  · rw [decide_eq_false hc] at hsm
    have HSM := hid hsm
    clear hsm
    go_enter Tryd.func7, Tryd.ntmps7
    go_wp2_with fail
    refine HSM.out.mono ?_
    rintro e w' ⟨rfl, rfl⟩
    go_wp2_with fail
    refine (hk_alive _ T1.out).mono ?_
    rintro e w4 ⟨rfl, hb4⟩
    go_wp2_with fail
    go_ret
    exact ⟨rfl, below_to B1.out hb4⟩

end Go.Proofs.YtejkimhmpnogkaaDoor

namespace Go.Proofs.YtejkimhmpnogkaaDoor
open Go.RowKit

set_option maxRecDepth 100000 in
set_option maxHeartbeats 2000000 in
theorem labels_any (key label ctx : ByteArray) (n : Int) (W : World) (hT : Tab W) (hk : key.size ≤ 140737488351232) (hs : label.size ≤ 140737488351232) (hs2 : ctx.size ≤ 140737488351232) : Calls Tryd.prog 8 #[.string key, .string label, .string ctx, .int .i64 n] W fun e w' => e = .returned (.bool true) ∧ Below W.heap.size W w' := by
  have T1 := hid (hT.keep (below_new (w := W) (.cells #[.string key, .string label, .string ctx] 9)))
  have B1 := hid (below_new (w := W) (.cells #[.string key, .string label, .string ctx] 9))
  have hsm := hsmall_three key label ctx W.heap.size _ hk hs hs2 (cell_at (alloc_at W (.cells #[.string key, .string label, .string ctx] 9)) 0) (cell_at (alloc_at W (.cells #[.string key, .string label, .string ctx] 9)) 1) (cell_at (alloc_at W (.cells #[.string key, .string label, .string ctx] 9)) 2)
  clear hT
  by_cases hc : key.size + label.size + ctx.size ≤ 2048
  · rw [decide_eq_true hc] at hsm
    have HSM := hid hsm
    clear hsm
    by_cases hn : n > 512
    · have d0 : decide (n > 512) = true := decide_eq_true hn
      by_cases hn2 : n ≤ 8160
      · have d1 : decide (n ≤ 8160) = true := decide_eq_true hn2
        go_enter Tryd.func8, Tryd.ntmps8
        go_wp2_with fail
        refine HSM.out.mono ?_
        rintro e w' ⟨rfl, rfl⟩
        go_wp2_with fail
        refine (hk_alive _ T1.out).mono ?_
        rintro e w4 ⟨rfl, hb4⟩
        go_wp2_with fail
        go_ret
        exact ⟨rfl, below_to B1.out hb4⟩
      · have d1 : decide (n ≤ 8160) = false := decide_eq_false hn2
        obtain ⟨X, hX⟩ : ∃ X, LS key.data.toList label.data.toList ctx.data.toList n = X := ⟨_, rfl⟩
        obtain ⟨E, hE⟩ : ∃ E, LE label.data.toList ctx.data.toList n = E := ⟨_, rfl⟩
        go_enter Tryd.func8, Tryd.ntmps8
        go_wp2_with fail
        refine HSM.out.mono ?_
        rintro e w' ⟨rfl, rfl⟩
        go_wp2_with fail
        obtain ⟨w0, hw0⟩ : ∃ w0, W.alloc (.cells #[.string key, .string label, .string ctx] 9) = w0 := ⟨_, rfl⟩
        rw [hw0] at T1 B1 ⊢
        clear hw0
        have H2 := hid (label_all key label ctx n w0 T1.out (by omega) (by omega) (by omega))
        go_wp2_with fail
        refine H2.out.mono ?_
        rintro e w2 ⟨rfl, hb2⟩
        have T2 := hid (T1.out.keep hb2)
        have B2 := hid (below_to B1.out hb2)
        clear hb2 H2 T1 B1
        have H3 := hid (RLabel_all key label ctx n w2 (by omega) (by omega) (by omega))
        go_wp2_with fail
        refine H3.out.mono ?_
        rintro e w3 ⟨rfl, hb3⟩
        have T3 := hid (T2.out.keep hb3)
        have B3 := hid (below_to B2.out hb3)
        clear hb3 H3 T2 B2
        go_wp2_with fail
        refine (hk_alive _ T3.out).mono ?_
        rintro e w6 ⟨rfl, hb6⟩
        go_wp2_with fail
        go_ret
        exact ⟨rfl, below_to B3.out hb6⟩
    · have d0 : decide (n > 512) = false := decide_eq_false hn
      obtain ⟨X, hX⟩ : ∃ X, LS key.data.toList label.data.toList ctx.data.toList n = X := ⟨_, rfl⟩
      obtain ⟨E, hE⟩ : ∃ E, LE label.data.toList ctx.data.toList n = E := ⟨_, rfl⟩
      go_enter Tryd.func8, Tryd.ntmps8
      go_wp2_with fail
      refine HSM.out.mono ?_
      rintro e w' ⟨rfl, rfl⟩
      go_wp2_with fail
      obtain ⟨w0, hw0⟩ : ∃ w0, W.alloc (.cells #[.string key, .string label, .string ctx] 9) = w0 := ⟨_, rfl⟩
      rw [hw0] at T1 B1 ⊢
      clear hw0
      have H2 := hid (label_all key label ctx n w0 T1.out (by omega) (by omega) (by omega))
      go_wp2_with fail
      refine H2.out.mono ?_
      rintro e w2 ⟨rfl, hb2⟩
      have T2 := hid (T1.out.keep hb2)
      have B2 := hid (below_to B1.out hb2)
      clear hb2 H2 T1 B1
      have H3 := hid (RLabel_all key label ctx n w2 (by omega) (by omega) (by omega))
      go_wp2_with fail
      refine H3.out.mono ?_
      rintro e w3 ⟨rfl, hb3⟩
      have T3 := hid (T2.out.keep hb3)
      have B3 := hid (below_to B2.out hb3)
      clear hb3 H3 T2 B2
      go_wp2_with fail
      refine (hk_alive _ T3.out).mono ?_
      rintro e w6 ⟨rfl, hb6⟩
      go_wp2_with fail
      go_ret
      exact ⟨rfl, below_to B3.out hb6⟩
  · rw [decide_eq_false hc] at hsm
    have HSM := hid hsm
    clear hsm
    go_enter Tryd.func8, Tryd.ntmps8
    go_wp2_with fail
    refine HSM.out.mono ?_
    rintro e w' ⟨rfl, rfl⟩
    go_wp2_with fail
    refine (hk_alive _ T1.out).mono ?_
    rintro e w4 ⟨rfl, hb4⟩
    go_wp2_with fail
    go_ret
    exact ⟨rfl, below_to B1.out hb4⟩

end Go.Proofs.YtejkimhmpnogkaaDoor

namespace Go.Proofs.YtejkimhmpnogkaaDoor
open Go.RowKit

theorem XS_size (key info : List UInt8) (n : Nat) (h : n ≤ 8160) : (XS key info (n : Int)).size = n := by
  unfold XS
  rw [if_neg (by omega)]
  show (HK.expand key info _).toArray.size = _
  rw [List.size_toArray, HK.expand_length]
  omega
theorem XS_take (key info : List UInt8) (n m : Nat) (h : m ≤ 8160) (hnm : n ≤ m) : (XS key info (m : Int)).extract 0 n = XS key info (n : Int) := by
  unfold XS
  rw [if_neg (by omega), if_neg (by omega)]
  apply ByteArray.ext
  rw [ByteArray.data_extract, List.extract_toArray]
  show _ = (HK.expand key info _).toArray
  simp only [List.extract, List.drop_zero]
  have := HK.expand_take key info hnm
  simpa using this
theorem XE_in (n : Nat) (h : n ≤ 8160) : XE (n : Int) = 0 := by unfold XE; rw [if_neg (by omega)]

set_option maxRecDepth 100000 in
set_option maxHeartbeats 2000000 in
theorem begins_any (key info : ByteArray) (n m : Nat) (hn : n ≤ 255) (hm : m ≤ 255) (W : World) (hT : Tab W) (hk : key.size ≤ 140737488351232) (hs : info.size ≤ 140737488351232) : Calls Tryd.prog 9 #[.string key, .string info, .int .u8 n, .int .u8 m] W fun e w' => e = .returned (.bool true) ∧ Below W.heap.size W w' := by
  have T1 := hid (hT.keep (below_new (w := W) (.cells #[.string key, .string info] 9)))
  have B1 := hid (below_new (w := W) (.cells #[.string key, .string info] 9))
  have hsm := hsmall_two key info W.heap.size _ hk hs (cell_at (alloc_at W (.cells #[.string key, .string info] 9)) 0) (cell_at (alloc_at W (.cells #[.string key, .string info] 9)) 1)
  clear hT
  by_cases hc : key.size + info.size ≤ 2048
  · rw [decide_eq_true hc] at hsm
    have HSM := hid hsm
    clear hsm
    have e1 := XS_size key.data.toList info.data.toList n (by omega)
    have e2 := XS_size key.data.toList info.data.toList (n + m) (by omega)
    have e3 := XS_take key.data.toList info.data.toList n (n + m) (by omega) (by omega)
    have f1 := XE_in n (by omega)
    have f2 := XE_in (n + m) (by omega)
    have en : ((n + m : Nat) : Int) = (n : Int) + (m : Int) := by omega
    rw [en] at e2 e3 f2
    have H2 := fun w T => expand_all key info (n : Int) w T (by omega) (by omega)
    have H3 := fun w T => expand_all key info ((n : Int) + (m : Int)) w T (by omega) (by omega)
    rw [f1] at H2
    rw [f2] at H3
    obtain ⟨X, hX⟩ : ∃ X, XS key.data.toList info.data.toList (n : Int) = X := ⟨_, rfl⟩
    obtain ⟨Y, hY⟩ : ∃ Y, XS key.data.toList info.data.toList ((n : Int) + (m : Int)) = Y := ⟨_, rfl⟩
    rw [hX] at e1 e3 H2
    rw [hY] at e2 e3 H3
    have G2 := hid H2
    have G3 := hid H3
    have E3 := hid e3
    clear H2 H3 hX hY f1 f2 e3
    go_enter Tryd.func9, Tryd.ntmps9
    go_wp2_with fail
    refine HSM.out.mono ?_
    rintro e w' ⟨rfl, rfl⟩
    go_wp2_with fail
    refine (G2.out _ T1.out).mono ?_
    rintro e w2 ⟨rfl, hb2⟩
    have T2 := hid (T1.out.keep hb2)
    have B2 := hid (below_to B1.out hb2)
    clear hb2 T1 B1
    go_wp2_with fail
    refine (G3.out _ T2.out).mono ?_
    rintro e w3 ⟨rfl, hb3⟩
    have T3 := hid (T2.out.keep hb3)
    have B3 := hid (below_to B2.out hb3)
    clear hb3 T2 B2
    go_wp2_with fail
    rotate_left
    · rename_i hne
      exact absurd (congrArg ByteArray.toList E3.out) hne
    refine (hk_alive _ T3.out).mono ?_
    rintro e w6 ⟨rfl, hb6⟩
    go_wp2_with fail
    go_ret
    exact ⟨rfl, below_to B3.out hb6⟩
  · rw [decide_eq_false hc] at hsm
    have HSM := hid hsm
    clear hsm
    go_enter Tryd.func9, Tryd.ntmps9
    go_wp2_with fail
    refine HSM.out.mono ?_
    rintro e w' ⟨rfl, rfl⟩
    go_wp2_with fail
    refine (hk_alive _ T1.out).mono ?_
    rintro e w4 ⟨rfl, hb4⟩
    go_wp2_with fail
    go_ret
    exact ⟨rfl, below_to B1.out hb4⟩

end Go.Proofs.YtejkimhmpnogkaaDoor
