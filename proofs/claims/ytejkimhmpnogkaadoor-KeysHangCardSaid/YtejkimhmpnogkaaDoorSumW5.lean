/- The walks of what takes bytes: New, none, Add. -/
import Derived.Test.YtejkimhmpnogkaaDoorSumW4
import Derived.Test.YtejkimhmpnogkaaDoorBBF7
namespace Go.Proofs.YtejkimhmpnogkaaDoor
open Go Go.RowKit

/-- The cells of a hash. -/
def hcs (st : SM.St) (v : Value) (o : Nat) (r : Int) (n : Nat) : Array Value := vob (mstl st) #[v, .int .i64 (o : Int), .int .i8 r, .int .u64 (n : Int), .bool true]
theorem hcs_bset (st : SM.St) (v v' : Value) (o o' : Nat) (r r' : Int) (n : Nat) : bset (hcs st v o r n) 8 v' o' r' = hcs st v' o' r' n := by
  simp [bset, hcs, vob, vrow, mstl]
theorem hcs_size (st : SM.St) (v : Value) (o : Nat) (r : Int) (n : Nat) : (hcs st v o r n).size = 13 := by simp [hcs, vob, vrow, mstl]
theorem hcs_n (st : SM.St) (v : Value) (o : Nat) (r : Int) (n n' : Nat) : (hcs st v o r n).setIfInBounds 11 (.int .u64 (n' : Int)) = hcs st v o r n' := by simp [hcs, vob, vrow, mstl]
theorem hcs_at11 (st : SM.St) (v : Value) (o : Nat) (r : Int) (n : Nat) : (hcs st v o r n)[11]? = some (.int .u64 (n : Int)) := by simp [hcs, vob, vrow, mstl]
theorem hcs_at12 (st : SM.St) (v : Value) (o : Nat) (r : Int) (n : Nat) : (hcs st v o r n)[12]? = some (.bool true) := by simp [hcs, vob, vrow, mstl]

/-- A hash that took A, of which q blocks are taken in. -/
def HashIn (w : World) (B hb : Nat) (A : List UInt8) (q : Nat) : Prop :=
  ∃ v o r, BufAt w hb 8 70 (hcs (SM.run A q) v o r A.length) v o r (A.drop (64 * q)) ∧ 64 * q ≤ A.length ∧ o ≤ 64 * q ∧ B ≤ hb ∧ (∀ g, v.ownBlock = some g → B ≤ g)
def HashAt (w : World) (B hb : Nat) (A : List UInt8) : Prop := HashIn w B hb A (A.length / 64)
section
variable {w w' : World} {B hb q : Nat} {A : List UInt8}
theorem HashIn.keep (h : HashIn w B hb A q) (hw : Below w.heap.size w w') : HashIn w' B hb A q := by
  obtain ⟨v, o, r, h1, h2⟩ := h
  exact ⟨v, o, r, h1.below hw, h2⟩
theorem HashIn.dr (h : HashIn w B hb A q) (hw : Dr w w') : HashIn w' B hb A q := by
  obtain ⟨v, o, r, h1, h2⟩ := h
  exact ⟨v, o, r, h1.dr hw, h2⟩
theorem HashAt.keep (h : HashAt w B hb A) (hw : Below w.heap.size w w') : HashAt w' B hb A := HashIn.keep h hw
theorem HashIn.lt (h : HashIn w B hb A q) : hb < w.heap.size := by
  obtain ⟨v, o, r, h1, h2⟩ := h
  exact hget_lt h1.at_
theorem HashIn.made (h : HashIn w B hb A q) : w.cell? ⟨hb, 12, none⟩ = some (.bool true) := by
  obtain ⟨v, o, r, h1, h2⟩ := h
  rw [cell_at h1.at_, hcs_bset, hcs_at12]
theorem HashIn.num (h : HashIn w B hb A q) : w.cell? ⟨hb, 11, none⟩ = some (.int .u64 (A.length : Int)) := by
  obtain ⟨v, o, r, h1, h2⟩ := h
  rw [cell_at h1.at_, hcs_bset, hcs_at11]
theorem HashIn.free (h : HashIn w B hb A q) (j : Nat) : w.frozen? ⟨hb, j, none⟩ = false := by
  obtain ⟨v, o, r, h1, h2⟩ := h
  exact free_at h1.at_ j
end

theorem new_any (W : World) : Calls Tryd.prog 19 #[] W fun e w' => e = .returned (.pointer (some ⟨W.heap.size, 0, none⟩)) ∧ HashAt w' W.heap.size W.heap.size [] ∧ Below W.heap.size W w' := by
  have hb : BufAt (W.alloc (.cells (hcs SM.init (.slice none 0 0) 0 0 0) 70)) W.heap.size 8 70 (hcs SM.init (.slice none 0 0) 0 0 0) (.slice none 0 0) 0 0 [] :=
    ⟨by rw [hcs_bset]; exact alloc_at _ _, by rw [hcs_size]; decide, .inl ⟨rfl, rfl, rfl⟩, (fun e => by cases e)⟩
  have HB := hid hb
  clear hb
  go_enter Tryd.func19, Tryd.ntmps19
  go_wp2_with fail
  go_ret
  exact ⟨rfl, ⟨_, _, _, HB.out, Nat.le_refl _, Nat.le_refl _, Nat.le_refl _, (fun g e => by cases e)⟩, below_new _⟩

theorem none_any {w : World} {hb : Nat} (h : w.cell? ⟨hb, 12, none⟩ = some (.bool true)) : Calls Tryd.prog 42 #[.pointer (some ⟨hb, 0, none⟩)] w fun e w' => e = .returned (.bool false) ∧ w = w' := by
  go_enter Tryd.func42, Tryd.ntmps42
  go_wp2_with fail
  go_ret
  exact ⟨rfl, rfl⟩
theorem none_nil (w : World) : Calls Tryd.prog 42 #[.pointer none] w fun e w' => e = .returned (.bool true) ∧ w = w' := by
  go_enter Tryd.func42, Tryd.ntmps42
  go_wp2_with fail
  go_ret
  exact ⟨rfl, rfl⟩

/-- The table of the rounds stands where it was laid. -/
def Tab (w : World) : Prop := ∃ TG fg, w.heap[0]? = some (.cells (vrow SM.K) TG fg)
theorem Tab.lt {w : World} (h : Tab w) : 0 < w.heap.size := by obtain ⟨T, f, h⟩ := h; exact lt_blk h
theorem Tab.keep {w w' : World} (h : Tab w) (hb : Below w.heap.size w w') : Tab w' := by
  obtain ⟨T, f, h⟩ := h; exact ⟨T, f, keepB hb h⟩
theorem Tab.out {w w' : World} {ex : Nat → Prop} (h : Tab w) (hb : Out ex w w') (hn : ¬ ex 0) : Tab w' := by
  obtain ⟨T, f, h⟩ := h; exact ⟨T, f, hb.get h hn⟩
theorem Tab.belowB {w w' : World} {B : Nat} (h : Tab w) (hb : Below B w w') (h0 : 0 < B) : Tab w' := by
  obtain ⟨T, f, h⟩ := h; exact ⟨T, f, (hb.block 0 h0).trans h⟩

theorem set_n {w : World} {hb : Nat} {st : SM.St} {v : Value} {o n : Nat} {r : Int} {l : List UInt8} (h : BufAt w hb 8 70 (hcs st v o r n) v o r l) (n' : Nat) : BufAt (w.setCell ⟨hb, 11, none⟩ (.int .u64 (n' : Int))) hb 8 70 (hcs st v o r n') v o r l := by
  have h1 := h.at_
  rw [hcs_bset] at h1
  refine ⟨?_, by rw [hcs_size]; decide, h.own.keep fun g ob e hg => hget_setCell_ne hg (by rintro rfl; exact h.ne e) _, h.ne⟩
  rw [hcs_bset, hget_setCell h1, hcs_n]
/-- Into the next block. -/
theorem take_block {w1 w2 : World} {B hb q : Nat} {A : List UInt8} {v : Value} {o : Nat} {r : Int} (h : BufAt w1 hb 8 70 (hcs (SM.run A q) v o r A.length) v (o + 64) (-1) ((A.drop (64 * q)).drop 64)) (hq : 64 * q + 64 ≤ A.length)
    (ho : o ≤ 64 * q) (hB : B ≤ hb) (hB2 : ∀ g, v.ownBlock = some g → B ≤ g) (hO : Only hb w1 w2)
    (hc : w2.heap[hb]? = some (.cells (vob (mstl (SM.block (SM.run A q) ((A.drop (64 * q)).take 64))) #[v, .int .i64 ((o + 64 : Nat) : Int), .int .i8 (-1), .int .u64 (A.length : Int), .bool true]) 70 (0, 0))) : HashIn w2 B hb A (q + 1) := by
  refine ⟨v, o + 64, -1, ⟨?_, by rw [hcs_size]; decide, ?_, h.ne⟩, by omega, by omega, hB, hB2⟩
  · rw [hcs_bset]
    exact hc
  · have := h.own
    rw [List.drop_drop] at this
    rw [show 64 * (q + 1) = 64 * q + 64 by omega]
    refine this.keep fun g ob e hg => ?_
    exact (hO.block g (hget_lt hg) (by rintro rfl; exact h.ne e)).trans hg

set_option maxRecDepth 100000 in
set_option maxHeartbeats 2000000 in
theorem add_any (s : ByteArray) {w : World} {B hb : Nat} {A : List UInt8} (h : HashAt w B hb A) (hB : 0 < B) (hBw : B ≤ w.heap.size) (hT : Tab w) (hs : A.length + s.size ≤ 274877906944) :
    Calls Tryd.prog 21 #[.pointer (some ⟨hb, 0, none⟩), .string s] w fun e w' => e = .returned (.int .i64 0) ∧ HashAt w' B hb (A ++ s.data.toList) ∧ Below B w w' := by
  have hm := h.made
  have hn := h.num
  have hf := h.free
  have HH := hid h
  have HT := hid hT
  obtain ⟨v, o, r, hb1, hq, ho, hB1, hB2⟩ := h
  have HB1 := hid hb1
  have HB2 := hid hB2
  have hlen : (A ++ s.data.toList).length = A.length + s.size := by rw [List.length_append]; simp
  have HLEN := hid hlen
  clear hb1 hT hB2 hlen
  obtain ⟨q, hqq⟩ : ∃ q, A.length / 64 = q := ⟨_, rfl⟩
  rw [hqq] at hq ho HB1
  have HQ := hid hqq
  clear hqq
  go_enter Tryd.func21, Tryd.ntmps21
  go_wp2_with fail
  refine (none_any hm).mono ?_
  rintro e w' ⟨rfl, rfl⟩
  go_wp2_with fail
  have e0 : (A.length : Int) + (s.size : Int) = (((A ++ s.data.toList).length : Nat) : Int) := by rw [HLEN.out]; omega
  rw [e0]
  have b1 := set_n HB1.out (A ++ s.data.toList).length
  have hws := bwrites_any s b1 (by rw [List.length_drop]; omega)
  have hdr : A.drop (64 * q) ++ s.data.toList = (A ++ s.data.toList).drop (64 * q) := by rw [List.drop_append_of_le_length hq]
  rw [hdr] at hws
  refine hws.mono ?_
  clear hws
  rintro e w1 ⟨rfl, v1, o1, r1, hb2, ho1, hO1, hnew⟩
  have hin : HashIn w1 B hb (A ++ s.data.toList) q := by
    refine ⟨v1, o1, r1, ?_, by rw [HLEN.out]; omega, by omega, hB1, ?_⟩
    · rw [SM.run_append _ _ _ hq]
      have hcs1 := hcs_bset (SM.run A q) v v1 o o1 r r1 (A ++ s.data.toList).length
      exact ⟨by rw [hcs_bset, ← hcs1]; exact hb2.at_, by rw [hcs_size]; decide, hb2.own, hb2.ne⟩
    · intro g hg
      rcases hnew with h1 | ⟨g2, h1, h2⟩
      · exact HB2.out g (by rw [← h1]; exact hg)
      · rw [h1] at hg; injection hg with hg; subst hg; have h3 : (w.setCell ⟨hb, 11, none⟩ (.int .u64 (((A ++ s.data.toList).length : Nat) : Int))).heap.size = w.heap.size := by simp [World.setCell]
        omega
  have hbel : Below B w w1 := by
    refine ((Below.refl B w).setCell (p := ⟨hb, 11, none⟩) hB1 _).trans (hO1.below ?_ (by simp [World.setCell]; omega))
    rintro j (h1 | h1)
    · omega
    · exact HB2.out j h1
  have HIN := hid hin
  have HBE := hid hbel
  have HT1 := hid (HT.out.belowB hbel hB)
  clear hin hbel HB1 HB2 hb2 hO1 hnew b1 hdr e0 hm hn hf HH HT
  generalize hA2 : A ++ s.data.toList = A2 at *
  have HA2 := hid hA2
  clear hA2
  have HLEN2 := hid (show A2.length ≤ 274877906944 by rw [HLEN.out]; exact hs)
  go_wp2_with fail
  have hq2 : q ≤ A2.length / 64 := by obtain ⟨_, _, _, _, h, _⟩ := HIN.out; omega
  go_loopg [] (A2.length / 64 + 1 - q) (fun g wr => ∃ q : Nat, q + g = A2.length / 64 + 1 ∧ 0 < g ∧ HashIn wr B hb A2 q ∧ Below B w wr ∧ Tab wr)
  case atStart => exact ⟨q, by omega, by omega, HIN.out, HBE.out, HT1.out⟩
  case round =>
    clear HIN HBE HT1
    obtain ⟨p, hpg, hg0, rin, rb, rt⟩ := hrel
    have RIN := hid rin
    have RB := hid rb
    have RT := hid rt
    obtain ⟨v2, o2, r2, hb2, hp2, ho2, _, hv2⟩ := rin
    have HB2 := hid hb2
    have HV2 := hid hv2
    have hdl : (A2.drop (64 * p)).length = A2.length - 64 * p := List.length_drop ..
    have bl := blen_any hb2
    rw [hdl] at bl
    have hszw := rb.size
    obtain ⟨m, hm⟩ : ∃ m, A2.length - 64 * p = m := ⟨_, rfl⟩
    rw [hm] at bl hdl
    have BL := hid bl
    have HDL := hid hdl
    have HM := hid hm
    clear hb2 hv2 rb rt bl hdl hm
    by_cases hc : 64 ≤ m
    · have d1 : decide ((m : Int) ≥ 64) = true := decide_eq_true (by omega)
      go_wp2_with fail
      refine BL.out.mono ?_
      rintro e w3 ⟨rfl, hd3⟩
      have B3 := hid (HB2.out.dr hd3)
      have D3 := hid hd3
      clear hd3 BL HB2 RIN
      have hnx : Calls Tryd.prog 48 #[.pointer (some ⟨hb, 8, none⟩), .int .i64 ((64 : Nat) : Int)] w3 _ := bnext_any B3.out 64 (by decide) (by rw [HDL.out]; exact hc)
      rw [show ((64 : Nat) : Int) = 64 from rfl] at hnx
      have HNX := hid hnx
      clear hnx
      go_wp2_with fail
      refine HNX.out.mono ?_
      rintro e w4 ⟨⟨g, cap, rfl, hcap, hgP, hcell⟩, hb4, ho4⟩
      have hS : w4.heap[hb]? = some (.cells (vob (mstl (SM.run A2 p)) #[v2, .int .i64 ((o2 + 64 : Nat) : Int), .int .i8 (-1), .int .u64 (A2.length : Int), .bool true]) 70 (0, 0)) := by
        have := hb4.at_
        rw [hcs_bset] at this
        exact this
      have hb34 : Below B w3 w4 := ho4.below (fun j e => by omega) (by obtain ⟨nn, rfl⟩ := D3.out; exact Nat.le_trans hBw hszw)
      have hb4' : Below B w w4 := (RB.out.trans (Dr.below D3.out)).trans hb34
      have hT4 := RT.out.belowB ((Dr.below (B := B) D3.out).trans hb34) hB
      have B4 := hid hb4
      have BB4 := hid hb4'
      have HT4 := hid hT4
      obtain ⟨TG, fg, hG⟩ := hT4
      have hbk := block_any (SM.run A2 p) ((A2.drop (64 * p)).take 64) hb g o2 cap _ TG fg w4 (by rw [List.length_take, HDL.out]; omega) hcap hS hG (fun j hj => by
        rw [hcell j hj]
        congr 3
        rw [List.getD_eq_getElem?_getD, List.getD_eq_getElem?_getD, List.getElem?_take, if_pos hj]) (by omega)
      have HBK := hid hbk
      clear hbk hG hS hb34 hb4' hcell ho4 hb4 HNX B3
      go_wp2_with fail
      refine HBK.out.mono ?_
      rintro e w5 ⟨rfl, hon, hc5⟩
      have R5 := hid (take_block (A := A2) (q := p) B4.out (by have := HM.out; omega) ho2 hB1 HV2.out hon hc5)
      have hbw4 : B ≤ w4.heap.size := Nat.le_trans hBw BB4.out.size
      have B5 := hid (BB4.out.trans (hon.below hB1 hbw4))
      have T5 := hid (HT4.out.belowB (hon.below hB1 hbw4) hB)
      clear hon hc5 HBK B4 BB4 HT4
      go_wp2_with fail
      go_roundg (A2.length / 64 - p)
      case measure => omega
      case rel => exact ⟨p + 1, by have := HM.out; omega, by have := HM.out; omega, R5.out, B5.out, T5.out⟩
    · have d1 : decide ((m : Int) ≥ 64) = false := decide_eq_false (by omega)
      go_wp2_with fail
      refine BL.out.mono ?_
      rintro e w3 ⟨rfl, hd3⟩
      have R3 := hid (RIN.out.dr hd3)
      have B3 := hid (RB.out.trans (Dr.below hd3))
      clear hd3 BL HB2 RIN
      go_wp2_with fail
      go_ret
      refine ⟨rfl, ?_, B3.out⟩
      have hpp : p = A2.length / 64 := by have := HM.out; omega
      unfold HashAt
      rw [HA2.out, ← hpp]
      exact R3.out

end Go.Proofs.YtejkimhmpnogkaaDoor
