/- The walk of what takes one byte. -/
import Derived.Test.YtjfjbanoikbnoaaDoorShaW4
import Derived.Test.YtjfjbanoikbnoaaDoorBUT
namespace Go.Proofs.YtjfjbanoikbnoaaDoor
open Go.RowKit

/-- What stands in memory when a text was taken in so far. -/
structure Taken (sb nb bb : Nat) (TG : TypeId) (fg : Nat × Nat) (l : List UInt8) (w : World) : Prop where
  st : w.heap[sb]? = some (.cells (stv (SH.run l (l.length / 128))) 37 (0, 0))
  num : w.heap[nb]? = some (.cells #[.int .u64 (l.length : Int)] 28 (0, 0))
  buf : ∃ B : List UInt8, B.length = 128 ∧ B.take (l.length % 128) = l.drop (128 * (l.length / 128)) ∧ w.heap[bb]? = some (.cells (brow B) 38 (0, 0))
  tab : w.heap[0]? = some (.cells (wrow SH.K) TG fg)

theorem take_set {B : List UInt8} {j : Nat} (c : UInt8) (h : j < B.length) : (B.set j c).take (j + 1) = B.take j ++ [c] := by
  rw [List.take_succ_eq_append_getElem (by simpa using h)]
  simp [List.take_set_of_le]
theorem run_more {l : List UInt8} {c : UInt8} {q : Nat} (h : l.length + 1 = 128 * (q + 1)) : SH.run (l ++ [c]) (q + 1) = SH.block (SH.run l q) (l.drop (128 * q) ++ [c]) := by
  rw [SH.run, SH.run_append _ _ _ (by omega), List.drop_append_of_le_length (by omega), List.take_of_length_le (by simp; omega)]

set_option maxHeartbeats 1000000 in
theorem add_any (c : UInt8) (sb nb bb : Nat) (TG : TypeId) (fg : Nat × Nat) (l : List UInt8) (w : World) (h : Taken sb nb bb TG fg l w) (hl : l.length < 1152921504606846976) (h1 : sb ≠ nb) (h2 : sb ≠ bb) (h3 : nb ≠ bb) (h4 : sb ≠ 0) (h5 : nb ≠ 0) (h6 : bb ≠ 0) :
    Calls Tryd.prog 13 #[.int .u8 (c.toNat : Int), .pointer (some ⟨bb, 0, none⟩), .pointer (some ⟨nb, 0, none⟩), .pointer (some ⟨sb, 0, none⟩)] w
      fun e w' => e = .returned (.tuple #[]) ∧ Taken sb nb bb TG fg (l ++ [c]) w' ∧ But [sb, nb, bb] w w' := by
  obtain ⟨hS, hN, ⟨B, hB, hT, hF⟩, hG⟩ := h
  have HS := hid hS
  have HN := hid hN
  have HG := hid hG
  have HT := hid hT
  have HF := hid hF
  have HB := hid hB
  obtain ⟨n, hn⟩ : ∃ n, l.length = n := ⟨_, rfl⟩
  have HL := hid hn
  rw [hn] at hN hl HT HN HS
  have cn : w.cell? ⟨nb, 0, none⟩ = some (.int .u64 (n : Int)) := cell_at hN 0
  have fn := free_at hN
  have cb := brow_cell hF (j := n % 128) (by omega)
  have fb := free_at hF
  have i0 : 0 ≤ (n : Int) % 128 := by omega
  have i1 : (n : Int) % 128 < 128 := by omega
  have i2 : ((n : Int) % 128).toNat = n % 128 := by omega
  clear hS hN hT hF hG hB hn
  have hlen : (l ++ [c]).length = n + 1 := by rw [List.length_append, HL.out]; rfl
  have HLEN := hid hlen
  clear hlen
  have HB2 : (B.set (n % 128) c).length = 128 := by rw [List.length_set]; exact HB.out
  have HBL := hid HB2
  have wS := at_setCell_other (at_setCell_other HS.out (p := ⟨bb, n % 128, none⟩) (by show sb ≠ bb; exact h2) (.int .u8 (c.toNat : Int))) (p := ⟨nb, 0, none⟩) (by show sb ≠ nb; exact h1) (.int .u64 ((n : Int) + 1))
  have wN := at_setCell (at_setCell_other HN.out (p := ⟨bb, n % 128, none⟩) (by show nb ≠ bb; exact h3) (.int .u8 (c.toNat : Int))) 0 (.int .u64 ((n : Int) + 1))
  have wF := at_setCell_other (brow_store HF.out (n % 128) c) (p := ⟨nb, 0, none⟩) (by show bb ≠ nb; exact h3.symm) (.int .u64 ((n : Int) + 1))
  have wG := at_setCell_other (at_setCell_other HG.out (p := ⟨bb, n % 128, none⟩) (by show 0 ≠ bb; exact h6.symm) (.int .u8 (c.toNat : Int))) (p := ⟨nb, 0, none⟩) (by show 0 ≠ nb; exact h5.symm) (.int .u64 ((n : Int) + 1))
  have wO : But [sb, nb, bb] w ((w.setCell ⟨bb, n % 128, none⟩ (.int .u8 (c.toNat : Int))).setCell ⟨nb, 0, none⟩ (.int .u64 ((n : Int) + 1))) := ((But.refl _ w).setCell (.inl (by simp)) _).setCell (.inl (by simp)) _
  have wN' : ((w.setCell ⟨bb, n % 128, none⟩ (.int .u8 (c.toNat : Int))).setCell ⟨nb, 0, none⟩ (.int .u64 ((n : Int) + 1))).heap[nb]? = some (.cells #[.int .u64 ((n + 1 : Nat) : Int)] 28 (0, 0)) := wN
  have hdrop : (l ++ [c]).drop (128 * (n / 128)) = l.drop (128 * (n / 128)) ++ [c] := List.drop_append_of_le_length (by have := HL.out; omega)
  have htake : (B.set (n % 128) c).take (n % 128 + 1) = l.drop (128 * (n / 128)) ++ [c] := by rw [take_set c (by have := HB.out; omega), HT.out]
  have WS := hid wS
  have WN := hid wN'
  have WF := hid wF
  have WG := hid wG
  have WO := hid wO
  have HD := hid hdrop
  have HTK := hid htake
  clear wS wN wN' wF wG wO hdrop htake HB2
  by_cases hz : (n + 1) % 128 = 0
  · have hd : ((((n : Int) + 1) % 128) == 0) = true := beq_iff_eq.2 (by omega)
    have hB' : B.set (n % 128) c = l.drop (128 * (n / 128)) ++ [c] := by
      rw [← HTK.out, List.take_of_length_le (by rw [HBL.out]; omega)]
    have hF' := WF.out
    rw [hB'] at hF'
    have hl128 : (l.drop (128 * (n / 128)) ++ [c]).length = 128 := by rw [← hB']; exact HBL.out
    have hrun := run_more (l := l) (c := c) (q := n / 128) (by rw [HL.out]; omega)
    have HFF := hid hF'
    have H128 := hid hl128
    have HRUN := hid hrun
    clear hB' hF' hl128 hrun
    go_enter Tryd.func13, Tryd.ntmps13
    go_wp2_with fail
    refine (block_any _ _ sb bb _ _ _ _ _ H128.out WS.out HFF.out WG.out h2 h4).mono ?_
    rintro e w2 ⟨rfl, ho, hs⟩
    have s1 : w2.heap[sb]? = some (.cells (stv (SH.run (l ++ [c]) ((l ++ [c]).length / 128))) 37 (0, 0)) := by
      rw [HLEN.out, show (n + 1) / 128 = n / 128 + 1 by omega, HRUN.out]; exact hs
    have s2 : w2.heap[nb]? = some (.cells #[.int .u64 ((l ++ [c]).length : Int)] 28 (0, 0)) := by rw [HLEN.out]; exact (ho.block nb (lt_blk WN.out) h1.symm).trans WN.out
    have s3 := (ho.block bb (lt_blk HFF.out) h2.symm).trans HFF.out
    have s4 := (ho.block 0 (lt_blk WG.out) h4.symm).trans WG.out
    have s5 := WO.out.trans (But.of_only ho (by simp))
    have R : Taken sb nb bb TG fg (l ++ [c]) w2 := ⟨s1, s2, ⟨_, H128.out, by rw [HLEN.out, hz, List.take_zero, List.drop_eq_nil_of_le (by rw [HLEN.out]; omega)], s3⟩, s4⟩
    have HR := hid R
    have H5 := hid s5
    clear s1 s2 s3 s4 s5 R ho hs
    go_wp2_with fail
    go_end0
    exact ⟨rfl, HR.out, H5.out⟩
  · have hd : ((((n : Int) + 1) % 128) == 0) = false := beq_eq_false_iff_ne.2 (by omega)
    go_enter Tryd.func13, Tryd.ntmps13
    go_wp2_with fail
    go_end0
    have hq : (n + 1) / 128 = n / 128 := by omega
    refine ⟨rfl, ⟨?_, ?_, ⟨_, HBL.out, ?_, WF.out⟩, WG.out⟩, WO.out⟩
    · rw [HLEN.out, hq, SH.run_append _ _ _ (by rw [HL.out]; omega)]; exact WS.out
    · rw [HLEN.out]; exact WN.out
    · rw [HLEN.out, hq, show (n + 1) % 128 = n % 128 + 1 by omega, HD.out]; exact HTK.out

end Go.Proofs.YtjfjbanoikbnoaaDoor
