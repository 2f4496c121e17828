/- The walk of what takes one byte. The walk of the program's digest. A row of bytes that is appended to, wherever it came from. Noughts appended to a row of bytes. -/
import Derived.Test.YtceljjnohjnepaaGreatDoorM15
import Derived.Test.YtceljjnohjnepaaGreatDoorM04
import Derived.Test.YtceljjnohjnepaaGreatDoorM05
import Derived.Deep.LoopGhost
import Derived.Deep.AppendSrc
import Derived.Laws.AppendOwn
namespace Go.Proofs.YtceljjnohjnepaaGreatDoor
open Go.RowKit

/-- What stands in memory when a text was taken in so far. -/
structure Taken (sb nb bb : Nat) (TG : TypeId) (fg : Nat × Nat) (l : List UInt8) (w : World) : Prop where
  st : w.heap[sb]? = some (.cells (stv (SH.run l (l.length / 128))) 106 (0, 0))
  num : w.heap[nb]? = some (.cells #[.int .u64 (l.length : Int)] 34 (0, 0))
  buf : ∃ B : List UInt8, B.length = 128 ∧ B.take (l.length % 128) = l.drop (128 * (l.length / 128)) ∧ w.heap[bb]? = some (.cells (brow B) 107 (0, 0))
  tab : w.heap[0]? = some (.cells (wrow SH.K) TG fg)

set_option maxRecDepth 100000 in
theorem take_set {B : List UInt8} {j : Nat} (c : UInt8) (h : j < B.length) : (B.set j c).take (j + 1) = B.take j ++ [c] := by
  rw [List.take_succ_eq_append_getElem (by simpa using h)]
  simp [List.take_set_of_le]
set_option maxRecDepth 100000 in
theorem run_more {l : List UInt8} {c : UInt8} {q : Nat} (h : l.length + 1 = 128 * (q + 1)) : SH.run (l ++ [c]) (q + 1) = SH.block (SH.run l q) (l.drop (128 * q) ++ [c]) := by
  rw [SH.run, SH.run_append _ _ _ (by omega), List.drop_append_of_le_length (by omega), List.take_of_length_le (by simp; omega)]

set_option maxRecDepth 100000 in
set_option maxHeartbeats 1000000 in
theorem sadd_any (c : UInt8) (sb nb bb : Nat) (TG : TypeId) (fg : Nat × Nat) (l : List UInt8) (w : World) (h : Taken sb nb bb TG fg l w) (hl : l.length < 1152921504606846976) (h1 : sb ≠ nb) (h2 : sb ≠ bb) (h3 : nb ≠ bb) (h4 : sb ≠ 0) (h5 : nb ≠ 0) (h6 : bb ≠ 0) :
    Calls Tryz.prog 77 #[.int .u8 (c.toNat : Int), .pointer (some ⟨bb, 0, none⟩), .pointer (some ⟨nb, 0, none⟩), .pointer (some ⟨sb, 0, none⟩)] w
      fun e w' => e = .returned (.tuple #[]) ∧ Taken sb nb bb TG fg (l ++ [c]) w' ∧ But [sb, nb, bb] w w' := by
  obtain ⟨hS, hN, ⟨B, hB, hT, hF⟩, hG⟩ := h
  have HS := hid hS
  have HN := hid hN
  have HG := hid hG
  have HT := hid hT
  have HF := hid hF
  have HB := hid hB
  obtain ⟨n, hn⟩ : ∃ n, l.length = n := ⟨_, rfl⟩
  have HL := hid hn
  rw [hn] at hN hl HT HN HS
  have cn : w.cell? ⟨nb, 0, none⟩ = some (.int .u64 (n : Int)) := cell_at hN 0
  have fn := free_at hN
  have cb := brow_cell hF (j := n % 128) (by omega)
  have fb := free_at hF
  have i0 : 0 ≤ (n : Int) % 128 := by omega
  have i1 : (n : Int) % 128 < 128 := by omega
  have i2 : ((n : Int) % 128).toNat = n % 128 := by omega
  clear hS hN hT hF hG hB hn
  have hlen : (l ++ [c]).length = n + 1 := by rw [List.length_append, HL.out]; rfl
  have HLEN := hid hlen
  clear hlen
  have HB2 : (B.set (n % 128) c).length = 128 := by rw [List.length_set]; exact HB.out
  have HBL := hid HB2
  have wS := at_setCell_other (at_setCell_other HS.out (p := ⟨bb, n % 128, none⟩) (by show sb ≠ bb; exact h2) (.int .u8 (c.toNat : Int))) (p := ⟨nb, 0, none⟩) (by show sb ≠ nb; exact h1) (.int .u64 ((n : Int) + 1))
  have wN := at_setCell (at_setCell_other HN.out (p := ⟨bb, n % 128, none⟩) (by show nb ≠ bb; exact h3) (.int .u8 (c.toNat : Int))) 0 (.int .u64 ((n : Int) + 1))
  have wF := at_setCell_other (brow_store HF.out (n % 128) c) (p := ⟨nb, 0, none⟩) (by show bb ≠ nb; exact h3.symm) (.int .u64 ((n : Int) + 1))
  have wG := at_setCell_other (at_setCell_other HG.out (p := ⟨bb, n % 128, none⟩) (by show 0 ≠ bb; exact h6.symm) (.int .u8 (c.toNat : Int))) (p := ⟨nb, 0, none⟩) (by show 0 ≠ nb; exact h5.symm) (.int .u64 ((n : Int) + 1))
  have wO : But [sb, nb, bb] w ((w.setCell ⟨bb, n % 128, none⟩ (.int .u8 (c.toNat : Int))).setCell ⟨nb, 0, none⟩ (.int .u64 ((n : Int) + 1))) := ((But.refl _ w).setCell (.inl (by simp)) _).setCell (.inl (by simp)) _
  have wN' : ((w.setCell ⟨bb, n % 128, none⟩ (.int .u8 (c.toNat : Int))).setCell ⟨nb, 0, none⟩ (.int .u64 ((n : Int) + 1))).heap[nb]? = some (.cells #[.int .u64 ((n + 1 : Nat) : Int)] 34 (0, 0)) := wN
  have hdrop : (l ++ [c]).drop (128 * (n / 128)) = l.drop (128 * (n / 128)) ++ [c] := List.drop_append_of_le_length (by have := HL.out; omega)
  have htake : (B.set (n % 128) c).take (n % 128 + 1) = l.drop (128 * (n / 128)) ++ [c] := by rw [take_set c (by have := HB.out; omega), HT.out]
  have WS := hid wS
  have WN := hid wN'
  have WF := hid wF
  have WG := hid wG
  have WO := hid wO
  have HD := hid hdrop
  have HTK := hid htake
  clear wS wN wN' wF wG wO hdrop htake HB2
  by_cases hz : (n + 1) % 128 = 0
  · have hd : ((((n : Int) + 1) % 128) == 0) = true := beq_iff_eq.2 (by omega)
    have hB' : B.set (n % 128) c = l.drop (128 * (n / 128)) ++ [c] := by
      rw [← HTK.out, List.take_of_length_le (by rw [HBL.out]; omega)]
    have hF' := WF.out
    rw [hB'] at hF'
    have hl128 : (l.drop (128 * (n / 128)) ++ [c]).length = 128 := by rw [← hB']; exact HBL.out
    have hrun := run_more (l := l) (c := c) (q := n / 128) (by rw [HL.out]; omega)
    have HFF := hid hF'
    have H128 := hid hl128
    have HRUN := hid hrun
    clear hB' hF' hl128 hrun
    go_enter Tryz.func77, Tryz.ntmps77
    go_wp2_with fail
    refine (block_any _ _ sb bb _ _ _ _ _ H128.out WS.out HFF.out WG.out h2 h4).mono ?_
    rintro e w2 ⟨rfl, ho, hs⟩
    have s1 : w2.heap[sb]? = some (.cells (stv (SH.run (l ++ [c]) ((l ++ [c]).length / 128))) 106 (0, 0)) := by
      rw [HLEN.out, show (n + 1) / 128 = n / 128 + 1 by omega, HRUN.out]; exact hs
    have s2 : w2.heap[nb]? = some (.cells #[.int .u64 ((l ++ [c]).length : Int)] 34 (0, 0)) := by rw [HLEN.out]; exact (ho.block nb (lt_blk WN.out) h1.symm).trans WN.out
    have s3 := (ho.block bb (lt_blk HFF.out) h2.symm).trans HFF.out
    have s4 := (ho.block 0 (lt_blk WG.out) h4.symm).trans WG.out
    have s5 := WO.out.trans (But.of_only ho (by simp))
    have R : Taken sb nb bb TG fg (l ++ [c]) w2 := ⟨s1, s2, ⟨_, H128.out, by rw [HLEN.out, hz, List.take_zero, List.drop_eq_nil_of_le (by rw [HLEN.out]; omega)], s3⟩, s4⟩
    have HR := hid R
    have H5 := hid s5
    clear s1 s2 s3 s4 s5 R ho hs
    go_wp2_with fail
    go_end0
    exact ⟨rfl, HR.out, H5.out⟩
  · have hd : ((((n : Int) + 1) % 128) == 0) = false := beq_eq_false_iff_ne.2 (by omega)
    go_enter Tryz.func77, Tryz.ntmps77
    go_wp2_with fail
    go_end0
    have hq : (n + 1) / 128 = n / 128 := by omega
    refine ⟨rfl, ⟨?_, ?_, ⟨_, HBL.out, ?_, WF.out⟩, WG.out⟩, WO.out⟩
    · rw [HLEN.out, hq, SH.run_append _ _ _ (by rw [HL.out]; omega)]; exact WS.out
    · rw [HLEN.out]; exact WN.out
    · rw [HLEN.out, hq, show (n + 1) % 128 = n % 128 + 1 by omega, HD.out]; exact HTK.out

end Go.Proofs.YtceljjnohjnepaaGreatDoor

namespace Go.Proofs.YtceljjnohjnepaaGreatDoor
open Go.RowKit

set_option maxRecDepth 100000 in
@[go_sem] theorem zero128 (w : World) : (zeroValue 107).run Tryz.prog w = .ok (.agg (brow (List.replicate 128 0))) w := by kernel_rfl
/-- The bytes of texts, one behind the other. -/
def cat (ss : List ByteArray) : List UInt8 := (ss.map fun s => s.data.toList).flatten
set_option maxRecDepth 100000 in
theorem cat_snoc (ss : List ByteArray) (s : ByteArray) : cat (ss ++ [s]) = cat ss ++ s.data.toList := by simp [cat]
set_option maxRecDepth 100000 in
theorem cat_take_succ (ss : List ByteArray) (k : Nat) (h : k < ss.length) : cat (ss.take (k + 1)) = cat (ss.take k) ++ (ss.getD k ByteArray.empty).data.toList := by
  rw [List.take_succ_eq_append_getElem h, cat_snoc]; simp [h]
set_option maxRecDepth 100000 in
theorem cat_take_le (ss : List ByteArray) (k : Nat) : (cat (ss.take k)).length ≤ (cat ss).length := by
  have : cat ss = cat (ss.take k) ++ cat (ss.drop k) := by unfold cat; rw [← List.flatten_append, ← List.map_append, List.take_append_drop]
  rw [this, List.length_append]; omega

set_option maxRecDepth 100000 in
theorem Taken.below {sb nb bb : Nat} {TG : TypeId} {fg : Nat × Nat} {l : List UInt8} {w w' : World} (h : Taken sb nb bb TG fg l w) (hb : Below w.heap.size w w') : Taken sb nb bb TG fg l w' := by
  obtain ⟨h1, h2, ⟨B, h3, h4, h5⟩, h6⟩ := h
  exact ⟨keepB hb h1, keepB hb h2, ⟨B, h3, h4, keepB hb h5⟩, keepB hb h6⟩
set_option maxRecDepth 100000 in
theorem Laid.but {w w' : World} {b : Nat} {l : List UInt8} {L : List Nat} (h : Laid w b l) (hb : But L w w') (hn : b ∉ L) : Laid w' b l := by
  obtain ⟨C, T, n, h1, h2, h3⟩ := h.ex
  exact ⟨⟨C, T, n, hb.keep h1 hn, h2, h3⟩⟩
set_option maxRecDepth 100000 in
theorem add_lit (c : UInt8) (k : Int) (hk : (c.toNat : Int) = k) (sb nb bb : Nat) (TG : TypeId) (fg : Nat × Nat) (l : List UInt8) (w : World) (h : Taken sb nb bb TG fg l w) (hl : l.length < 1152921504606846976) (h1 : sb ≠ nb) (h2 : sb ≠ bb) (h3 : nb ≠ bb) (h4 : sb ≠ 0) (h5 : nb ≠ 0) (h6 : bb ≠ 0) :
    Calls Tryz.prog 77 #[.int .u8 k, .pointer (some ⟨bb, 0, none⟩), .pointer (some ⟨nb, 0, none⟩), .pointer (some ⟨sb, 0, none⟩)] w
      fun e w' => e = .returned (.tuple #[]) ∧ Taken sb nb bb TG fg (l ++ [c]) w' ∧ But [sb, nb, bb] w w' := by
  subst hk; exact sadd_any c sb nb bb TG fg l w h hl h1 h2 h3 h4 h5 h6

set_option maxRecDepth 100000 in
theorem idx8 (l : List UInt64) (hl : l.length = 8) (i : Nat) (hi : i < 8) (w : World) : (Instr.index 106 (.agg (wrow l)) (.int .i64 (i : Int))).run Tryz.prog w = .ok (.int .u64 (UW (l.getD i 0))) w := by
  have hsz : (sizeOf 34).run Tryz.prog w = .ok 1 w := by kernel_rfl
  unfold Instr.index
  simp only [Sem.run_bind, asIntOf, Sem.run_pure, Result.andThen_ok, run_underlying Tryz.underlying106]
  rw [if_pos (by omega)]
  simp only [Sem.run_bind, hsz, Result.andThen_ok, Nat.mul_one, Int.toNat_natCast]
  unfold part
  have hagg : (isAgg 34).run Tryz.prog w = .ok false w := by
    unfold isAgg
    rw [Sem.run_bind, run_underlying Tryz.underlying34 w]
    rfl
  simp [Sem.run_bind, hagg, wrow_get l (show i < l.length by omega)]

set_option maxRecDepth 100000 in
theorem byte_of (x : UInt64) (k : Nat) (h : k < 64) : ((x >>> UInt64.ofNat k).toUInt8.toNat : Int) = UW x / (2 : Int) ^ k % 256 := by
  rw [u_shr x k h]
  unfold UW
  rw [UInt64.toNat_toUInt8]; omega
set_option maxRecDepth 100000 in
theorem bytes8_getD (x : UInt64) (j : Nat) (h : j < 8) : (SH.bytes8 x).getD j 0 = (x >>> UInt64.ofNat (56 - 8 * j)).toUInt8 := by
  match j, h with
  | 0, _ => rfl
  | 1, _ => rfl
  | 2, _ => rfl
  | 3, _ => rfl
  | 4, _ => rfl
  | 5, _ => rfl
  | 6, _ => rfl
  | 7, _ => rfl
/-- What stands behind the noughts. -/
def tail16 (n : Nat) : List UInt8 := List.replicate 8 0 ++ SH.bytes8 (8 * UInt64.ofNat n)
set_option maxRecDepth 100000 in
theorem tail_lo (n i : Nat) (h : i < 8) : (tail16 n).getD i 0 = 0 := by
  match i, h with
  | 0, _ => rfl
  | 1, _ => rfl
  | 2, _ => rfl
  | 3, _ => rfl
  | 4, _ => rfl
  | 5, _ => rfl
  | 6, _ => rfl
  | 7, _ => rfl
set_option maxRecDepth 100000 in
theorem tail_hi (n i : Nat) (hn : n < 1152921504606846976) (h : 8 ≤ i) (h2 : i < 16) : ((((tail16 n).getD i 0).toNat : Nat) : Int) = 8 * (n : Int) / (2 : Int) ^ (120 - 8 * i) % 256 := by
  have e1 : (tail16 n).getD i 0 = (SH.bytes8 (8 * UInt64.ofNat n)).getD (i - 8) 0 := by
    obtain ⟨j, rfl⟩ : ∃ j, i = j + 8 := ⟨i - 8, by omega⟩
    rw [show j + 8 - 8 = j by omega]
    rfl
  have e2 : UW (8 * UInt64.ofNat n) = 8 * (n : Int) := by
    unfold UW
    rw [UInt64.toNat_mul, UInt64.toNat_ofNat', show (8 : UInt64).toNat = 8 from rfl, Nat.mod_eq_of_lt (a := n) (b := 2 ^ 64) (by omega), Nat.mod_eq_of_lt (by omega)]
    omega
  rw [e1, bytes8_getD _ _ (by omega), byte_of _ _ (by omega), e2, show 56 - 8 * (i - 8) = 120 - 8 * i by omega]
set_option maxRecDepth 100000 in
theorem tail_len (n : Nat) : (tail16 n).length = 16 := rfl
set_option maxRecDepth 100000 in
theorem pad_eq (l : List UInt8) : SH.pad l = l ++ [128] ++ List.replicate (SH.zeros l.length) 0 ++ tail16 l.length := by
  unfold SH.pad tail16; simp only [List.append_assoc]
set_option maxRecDepth 100000 in
theorem out_getD (st : SH.St) (k j : Nat) (hk : k < 8) (hj : j < 8) : (SH.out st).getD (8 * k + j) 0 = (SH.bytes8 ((stl st).getD k 0)).getD j 0 := by
  have hk' : k = 0 ∨ k = 1 ∨ k = 2 ∨ k = 3 ∨ k = 4 ∨ k = 5 ∨ k = 6 ∨ k = 7 := by omega
  have hj' : j = 0 ∨ j = 1 ∨ j = 2 ∨ j = 3 ∨ j = 4 ∨ j = 5 ∨ j = 6 ∨ j = 7 := by omega
  rcases hk' with rfl | rfl | rfl | rfl | rfl | rfl | rfl | rfl <;> rcases hj' with rfl | rfl | rfl | rfl | rfl | rfl | rfl | rfl <;> rfl
set_option maxRecDepth 100000 in
theorem out_len (st : SH.St) : (SH.out st).length = 64 := rfl
set_option maxRecDepth 100000 in
theorem out_step (st : SH.St) (k j : Nat) (hk : k < 8) (hj : j < 8) : u8s ((SH.out st).take (8 * k + j)) ++ [.int .u8 (UW ((stl st).getD k 0) / (2 : Int) ^ (56 - 8 * j) % 256)] = u8s ((SH.out st).take (8 * k + (j + 1))) := by
  have hm : 8 * k + j < (SH.out st).length := by rw [out_len]; omega
  have e : (SH.out st)[8 * k + j] = (SH.out st).getD (8 * k + j) 0 := by simp [hm]
  rw [show 8 * k + (j + 1) = (8 * k + j) + 1 by omega, List.take_succ_eq_append_getElem hm, u8s_append, e, out_getD st k j hk hj, bytes8_getD _ _ hj]
  unfold u8s
  simp only [List.map_cons, List.map_nil]
  rw [byte_of _ _ (by omega)]

set_option maxRecDepth 100000 in
set_option maxHeartbeats 4000000 in
theorem sOf_any (ss : List ByteArray) (a : Option Addr) (cap : Nat) (TG : TypeId) (fg : Nat × Nat) (W : World) (hG : W.heap[0]? = some (.cells (wrow SH.K) TG fg)) (hb : (cat ss).length < 1152921504606846976 - 300) (hl : ss.length ≤ 9223372036854775807)
    (ha : ss.length = 0 ∨ ∃ bw off, a = some ⟨bw, off, none⟩ ∧ ∀ j, j < ss.length → W.cell? ⟨bw, off + j, none⟩ = some (.string (ss.getD j ByteArray.empty))) :
    Calls Tryz.prog 40 #[.slice a ss.length cap] W fun e w' => e = .returned (.string ⟨(SH.sha (cat ss)).toArray⟩) ∧ Below W.heap.size W w' := by
  have h0 : 0 < W.heap.size := lt_blk hG
  have HG := hid hG
  have HA := hid ha
  clear hG ha
  generalize hlen : ss.length = len at *
  have HL := hid hlen
  clear hlen
  go_enter Tryz.func40, Tryz.ntmps40
  go_wp2_with fail
  obtain ⟨N, hN⟩ : ∃ N, N = W.heap.size := ⟨_, rfl⟩
  rw [← hN]
  have HN := hid hN
  have n1 : N ≠ N + 1 + 1 := by omega
  have n2 : N ≠ N + 1 := by omega
  have n3 : N + 1 + 1 ≠ N + 1 := by omega
  have n4 : N ≠ 0 := by omega
  have n5 : N + 1 + 1 ≠ 0 := by omega
  have n6 : N + 1 ≠ 0 := by omega
  have N1 := hid n1
  have N2 := hid n2
  have N3 := hid n3
  have N4 := hid n4
  have N5 := hid n5
  have N6 := hid n6
  clear n1 n2 n3 n4 n5 n6
  go_loopw [21] (fun i wr => ∃ k : Nat, k ≤ len ∧ i = .int .i64 (k : Int) ∧ Taken N (N + 1 + 1) (N + 1) TG fg (cat (ss.take k)) wr ∧ Below W.heap.size W wr) (fun i _ => (len - intOf i).toNat)
  case atStart =>
    have hc0 : cat (ss.take 0) = [] := by simp [cat]
    refine ⟨0, by omega, rfl, ⟨by rw [hc0]; exact alloc_old (alloc_old (alloc_at' hN _)), by rw [hc0]; exact alloc_at' (by simp [hN]) _, ⟨List.replicate 128 0, rfl, by simp [cat], alloc_old (alloc_at' (by simp [hN]) _)⟩, alloc_old (alloc_old (alloc_old HG.out))⟩, below_alloc (below_alloc (below_new _) _) _⟩
  case round =>
    clear hN
    obtain ⟨k, hk, rfl, rT, rb⟩ := hrel
    have RT := hid rT
    have RB := hid rb
    have hsz := rb.size
    have lN := lt_blk rT.num
    clear rT
    by_cases hlt : k < len
    · have hd : decide ((k : Int) < (len : Int)) = true := decide_eq_true (by omega)
      have hk0 : 0 ≤ (k : Int) := by omega
      have hk1 : (k : Int) < (len : Int) := by omega
      obtain ⟨bw, off, rfl, hc⟩ := HA.out.resolve_left (by omega)
      have hbw := World.block_lt_of_cell? W _ (hc k hlt)
      have cs := (rb.cell (p := ⟨bw, off + k, none⟩) hbw).trans (hc k hlt)
      have hcat := cat_take_succ ss k (by rw [HL.out]; exact hlt)
      have hle := cat_take_le ss (k + 1)
      generalize ss.getD k ByteArray.empty = s at *
      rw [hcat] at hle
      have HCAT := hid hcat
      have HLE := hid hle
      clear hc hcat hle rb
      have hss : s.size ≤ 9223372036854775807 := by have := HLE.out; rw [List.length_append] at this; simp at this; omega
      go_wp2_with fail
      have hL := laid_bytes wr s
      have hB := bytesWorld_below wr 5 s
      have T2 := hid (RT.out.below hB)
      have B2 := hid (below_to RB.out hB)
      have L2 := hid hL
      clear hB hL RT RB cs
      generalize Lib.bytesWorld wr 5 s = w2 at *
      generalize wr.heap.size = X at *
      generalize grownCap wr s.size 0 5 = cp at *
      have hX : X ∉ [N, N + 1 + 1, N + 1] := by simp; omega
      have HX := hid hX
      have hll : s.data.toList.length = s.size := by simp
      have HLL := hid hll
      clear hX hll
      go_loopw [28] (fun i wr => ∃ j : Nat, j ≤ s.size ∧ i = .int .i64 (j : Int) ∧ Taken N (N + 1 + 1) (N + 1) TG fg (cat (ss.take k) ++ s.data.toList.take j) wr ∧ Laid wr X s.data.toList ∧ Below W.heap.size W wr) (fun i _ => (s.size - intOf i).toNat)
      case atStart => exact ⟨0, by omega, rfl, by rw [List.take_zero, List.append_nil]; exact T2.out, L2.out, B2.out⟩
      case round =>
        clear T2 B2 L2
        obtain ⟨j, hj, rfl, rT, rL, rb⟩ := hrel
        have RT := hid rT
        have RL := hid rL
        have RB := hid rb
        by_cases hlt2 : j < s.size
        · have hd2 : decide ((j : Int) < (s.size : Int)) = true := decide_eq_true (by omega)
          have hj0 : 0 ≤ (j : Int) := by omega
          have hj1 : (j : Int) < (s.size : Int) := by omega
          have cj := rL.cell (j := j) (by rw [HLL.out]; exact hlt2)
          have htk : s.data.toList.take (j + 1) = s.data.toList.take j ++ [s.data.toList.getD j 0] := by
            rw [List.take_succ_eq_append_getElem (by rw [HLL.out]; exact hlt2)]; simp [hlt2]
          generalize s.data.toList.getD j 0 = c at *
          have HTK := hid htk
          clear htk rT rL rb
          go_wp2_with fail
          refine (sadd_any c N (N + 1 + 1) (N + 1) TG fg _ _ RT.out (by have := HLE.out; rw [List.length_append] at this; rw [List.length_append, List.length_take]; omega) N1.out N2.out N3.out N4.out N5.out N6.out).mono ?_
          rintro e w3 ⟨rfl, ht, ho⟩
          have T3 := hid ht
          have L3 := hid (RL.out.but ho HX.out)
          have B3 := hid (RB.out.trans (ho.below (by have := HN.out; simp; omega) RB.out.size))
          clear ht ho cj
          go_wp2_with fail
          exact ⟨⟨j + 1, by omega, by go_num, by rw [HTK.out, ← List.append_assoc]; exact T3.out, L3.out, B3.out⟩, by simp [intOf]; omega⟩
        · have hd2 : decide ((j : Int) < (s.size : Int)) = false := decide_eq_false (by omega)
          have hdn2 : decide (j < s.size) = false := decide_eq_false hlt2
          have hj5 : j = s.size := by omega
          have hts : s.data.toList.take s.size = s.data.toList := List.take_of_length_le (by rw [HLL.out]; exact Nat.le_refl _)
          rw [hj5, hts, ← HCAT.out] at rT
          have RT2 := hid rT
          clear rT rL rb RT hj5 hts
          go_wp2_with fail
          exact ⟨⟨k + 1, by omega, by go_num, RT2.out, RB.out⟩, by simp [intOf]; omega⟩
    · have hd : decide ((k : Int) < (len : Int)) = false := decide_eq_false (by omega)
      have hdn : decide (k < len) = false := decide_eq_false hlt
      have hk5 : k = len := by omega
      have ht := RT.out
      have hts : ss.take len = ss := List.take_of_length_le (by rw [HL.out]; exact Nat.le_refl _)
      rw [hk5, hts] at ht
      clear hts
      have hbl : (cat ss).length < 1152921504606846976 - 300 := hb
      generalize hLc : cat ss = L at *
      have HLC := hid hLc
      clear hLc
      obtain ⟨n, hn⟩ : ∃ n, L.length = n := ⟨_, rfl⟩
      have cn : wr.cell? ⟨N + 1 + 1, 0, none⟩ = some (.int .u64 (n : Int)) := by rw [cell_at ht.num, hn]; rfl
      rw [hn] at hbl
      have HNL := hid hn
      have T1 := hid ht
      clear ht RT hk5 hb hk hlt rb hn
      go_wp2_with fail
      refine (add_lit 128 128 rfl N (N + 1 + 1) (N + 1) TG fg L _ T1.out (by rw [HNL.out]; omega) N1.out N2.out N3.out N4.out N5.out N6.out).mono ?_
      rintro e w2 ⟨rfl, ht, ho⟩
      have T2 := hid ht
      have B2 := hid (RB.out.trans (ho.below (by have := HN.out; simp; omega) RB.out.size))
      clear ht ho cn T1 RB hd hsz lN
      go_wp2_with fail
      go_loopg [] (SH.zeros n + 1) (fun g wr => ∃ z : Nat, z + g = SH.zeros n + 1 ∧ 0 < g ∧ Taken N (N + 1 + 1) (N + 1) TG fg (L ++ [128] ++ List.replicate z 0) wr ∧ Below W.heap.size W wr)
      case atStart => exact ⟨0, by omega, by omega, by rw [List.replicate_zero, List.append_nil]; exact T2.out, B2.out⟩
      case round =>
        obtain ⟨z, hz, hg, rT, rb⟩ := hrel
        have RT := hid rT
        have RB := hid rb
        obtain ⟨m, hm⟩ : ∃ m, n + 1 + z = m := ⟨_, rfl⟩
        have hll : (L ++ [128] ++ List.replicate z 0).length = m := by rw [List.length_append, List.length_append, HNL.out, List.length_replicate, ← hm]; rfl
        have cn : wr.cell? ⟨N + 1 + 1, 0, none⟩ = some (.int .u64 (m : Int)) := by rw [cell_at rT.num, hll]; rfl
        have HLL := hid hll
        have hzz : SH.zeros n ≤ 127 := by unfold SH.zeros; omega
        clear rT rb hll
        by_cases hc : m % 128 = 112
        · have hd : (((m : Int) % 128) != 112) = false := by rw [bne_eq_false_iff_eq]; omega
          have hz5 : z = SH.zeros n := by unfold SH.zeros at hz hzz ⊢; omega
          have HZ5 := hid hz5
          have HM := hid hm
          clear hz5 hm hz hc
          go_wp2_with fail
          have rT := RT.out
          rw [HZ5.out] at rT
          generalize hL2 : L ++ [128] ++ List.replicate (SH.zeros n) 0 = L2 at *
          have RT2 := hid rT
          have HL2 := hid hL2
          have hlen2 : L2.length < 1152921504606846976 - 20 := by rw [← HL2.out, ← HZ5.out, HLL.out, ← HM.out]; have := HZ5.out; omega
          clear rT RT hL2 HLL cn hd
          go_loopw [46] (fun i wr => ∃ k : Nat, k ≤ 16 ∧ i = .int .i64 (k : Int) ∧ Taken N (N + 1 + 1) (N + 1) TG fg (L2 ++ (tail16 n).take k) wr ∧ Below W.heap.size W wr) (fun i _ => (16 - intOf i).toNat)
          case atStart => exact ⟨0, by omega, rfl, by rw [List.take_zero, List.append_nil]; exact RT2.out, RB.out⟩
          case round =>
            clear RT2 RB
            obtain ⟨k, hk, rfl, rT, rb⟩ := hrel
            have RT := hid rT
            have RB := hid rb
            have htl := tail_len n
            have hlen3 : (L2 ++ (tail16 n).take k).length < 1152921504606846976 := by rw [List.length_append, List.length_take]; omega
            have HLEN3 := hid hlen3
            clear rT rb hlen3
            by_cases hlt : k < 16
            · have hd : decide ((k : Int) < 16) = true := decide_eq_true (by omega)
              have htk : (tail16 n).take (k + 1) = (tail16 n).take k ++ [(tail16 n).getD k 0] := by
                rw [List.take_succ_eq_append_getElem (by rw [htl]; exact hlt)]; simp [htl, hlt]
              by_cases hlo : k < 8
              · have hd8 : decide ((k : Int) < 8) = true := decide_eq_true (by omega)
                rw [tail_lo n k hlo] at htk
                have HTK := hid htk
                clear htk htl
                go_wp2_with fail
                refine (add_lit 0 0 rfl N (N + 1 + 1) (N + 1) TG fg _ _ RT.out HLEN3.out N1.out N2.out N3.out N4.out N5.out N6.out).mono ?_
                rintro e w3 ⟨rfl, ht, ho⟩
                have T3 := hid ht
                have B3 := hid (RB.out.trans (ho.below (by have := HN.out; simp; omega) RB.out.size))
                clear ht ho
                go_wp2_with fail
                exact ⟨⟨k + 1, by omega, by go_num, by rw [HTK.out, ← List.append_assoc]; exact T3.out, B3.out⟩, by simp [intOf]; omega⟩
              · have hd8 : decide ((k : Int) < 8) = false := decide_eq_false (by omega)
                have hth := tail_hi n k (by omega) (by omega) hlt
                have hsub : (120 : Int) - 8 * (k : Int) = ((120 - 8 * k : Nat) : Int) := by omega
                have hsh : 120 - 8 * k < 64 := by omega
                have hk0 : 0 ≤ (k : Int) := by omega
                have hk1 : (k : Int) < 16 := by omega
                have hk8 : 8 ≤ (k : Int) := by omega
                have HTH := hid hth
                have HTK := hid htk
                generalize (tail16 n).getD k 0 = c at *
                clear htk htl hth
                go_wp2_with fail
                refine (add_lit c _ HTH.out N (N + 1 + 1) (N + 1) TG fg _ _ RT.out HLEN3.out N1.out N2.out N3.out N4.out N5.out N6.out).mono ?_
                rintro e w3 ⟨rfl, ht, ho⟩
                have T3 := hid ht
                have B3 := hid (RB.out.trans (ho.below (by have := HN.out; simp; omega) RB.out.size))
                clear ht ho
                go_wp2_with fail
                exact ⟨⟨k + 1, by omega, by go_num, by rw [HTK.out, ← List.append_assoc]; exact T3.out, B3.out⟩, by simp [intOf]; omega⟩
            · have hd : decide ((k : Int) < 16) = false := decide_eq_false (by omega)
              have hk5 : k = 16 := by omega
              have hP : L2 ++ (tail16 n).take k = SH.pad L := by
                rw [hk5, List.take_of_length_le (by rw [htl]; exact Nat.le_refl _), ← HL2.out, pad_eq, HNL.out]
              have rT := RT.out
              rw [hP] at rT
              have rS := rT.st
              generalize hst : SH.run (SH.pad L) ((SH.pad L).length / 128) = st at *
              have hsha : SH.out st = SH.sha L := by unfold SH.sha; rw [hst]
              have HSHA := hid hsha
              obtain ⟨c0, c1, c2, c3, c4, c5, c6, c7⟩ := oct_cells rS
              obtain ⟨x0, x1, x2, x3, x4, x5, x6, x7⟩ := st
              have hix : ∀ i : Nat, i < 8 → ∀ w, (Instr.index 106 (.agg #[.int .u64 (UW x0), .int .u64 (UW x1), .int .u64 (UW x2), .int .u64 (UW x3), .int .u64 (UW x4), .int .u64 (UW x5), .int .u64 (UW x6), .int .u64 (UW x7)]) (.int .i64 (i : Int))).run Tryz.prog w = .ok (.int .u64 (UW ((stl ⟨x0, x1, x2, x3, x4, x5, x6, x7⟩).getD i 0))) w := by
                intro i hi w
                exact idx8 (stl ⟨x0, x1, x2, x3, x4, x5, x6, x7⟩) rfl i hi w
              have HIX := hid hix
              obtain ⟨i0, hi, hz0, hz1, hz2⟩ := info_parts info_u8
              clear rT rS RT hst hsha hk5 hP hix htl
              go_wp2_with fail
              clear c0 c1 c2 c3 c4 c5 c6 c7 hd
              generalize hst : (⟨x0, x1, x2, x3, x4, x5, x6, x7⟩ : SH.St) = st at *
              clear hst
              go_loopw [13, 64] (fun v i wr => ∃ k : Nat, k ≤ 8 ∧ i = .int .i64 (k : Int) ∧ wr.ownsRow W.heap.size 5 1 v (8 * k) (u8s ((SH.out st).take (8 * k))) ∧ Below W.heap.size W wr) (fun _ i _ => (8 - intOf i).toNat)
              case atStart => exact ⟨0, by omega, rfl, ⟨rfl, .inl ⟨rfl, rfl⟩⟩, RB.out⟩
              case round =>
                clear RB
                obtain ⟨k, hk, rfl, hown, hb⟩ := hrel
                have HO := hid hown
                clear hown
                by_cases hk4 : k < 8
                · have hx := HIX.out k hk4
                  have hkd : decide ((k : Int) < 8) = true := decide_eq_true (by omega)
                  generalize hxx : (stl st).getD k 0 = x at *
                  have HX := hid hxx
                  clear hxx
                  go_wp2_with fail
                  clear hx
                  go_loopw [13, 67] (fun v i wq => ∃ j : Nat, j ≤ 8 ∧ i = .int .i64 (j : Int) ∧ wq.ownsRow W.heap.size 5 1 v (8 * k + j) (u8s ((SH.out st).take (8 * k + j))) ∧ Below W.heap.size W wq) (fun _ i _ => (8 - intOf i).toNat)
                  case atStart => exact ⟨0, by omega, rfl, HO.out, hb⟩
                  case round =>
                    obtain ⟨j, hj, rfl, hown, hb⟩ := hrel
                    have HOJ := hid hown
                    clear hown
                    by_cases hj8 : j < 8
                    · have hj0 : 0 ≤ (j : Int) * 8 := by omega
                      have hjd : decide ((j : Int) < 8) = true := decide_eq_true (by omega)
                      have hml : (8 * k + j) + 1 ≤ maxLen := by unfold maxLen; omega
                      have hsub : (56 : Int) - 8 * (j : Int) = ((56 - 8 * j : Nat) : Int) := by omega
                      have hsh : 56 - 8 * j < 64 := by omega
                      have hj1 : 0 ≤ (j : Int) := by omega
                      have hj2 : (j : Int) < 8 := by omega
                      have hstp := out_step st k j hk4 hj8
                      rw [HX.out] at hstp
                      have HSTP := hid hstp
                      clear hstp
                      go_wp2_with (at_builtin; refine wpList_append_own _ rfl _ _ 32 rfl W.heap.size 5 i0 (.int .u8 0) 1 1 Tryz.underlying32 hi hz0 hz1 hz2 rfl (by decide) _ _ _ rfl (HOJ.out.alloc _) ⟨wr.heap.size, 0, none⟩ 1 1 [.int .u8 (UW x / (2 : Int) ^ (56 - 8 * j) % 256)] rfl rfl ?c1 ?c2 hml ?c4 ?c5 ?_)
                      case c1 => exact cell_one_new _ _ _
                      case c2 => intro u hu; simp only [List.mem_cons, List.not_mem_nil, or_false] at hu; subst hu; rfl
                      case c4 => omega
                      case c5 => have := hb.size; simp; omega
                      intro v' w1 hown' hgrow _
                      have hb2 : Below W.heap.size W w1 := (below_alloc hb _).grown hgrow (by have := hb.size; simp; omega) (fun g hg => block_le HOJ.out hg)
                      rw [HSTP.out] at hown'
                      have HO' := hid hown'
                      clear hown' hgrow hml
                      go_wp2_with fail
                      go_roundw
                      case rel => exact ⟨j + 1, by omega, by go_num, HO'.out, hb2⟩
                      case measure => simp [intOf]; omega
                    · have hj9 : j = 8 := by omega
                      have hjd : decide ((j : Int) < 8) = false := decide_eq_false (by omega)
                      have ho := HOJ.out
                      rw [hj9, show 8 * k + 8 = 8 * (k + 1) by omega] at ho
                      have HO2 := hid ho
                      clear ho HOJ hj9
                      go_wp2_with fail
                      exact ⟨⟨k + 1, by omega, by go_num, HO2.out, hb⟩, by simp [intOf]; omega⟩
                · have hk5 : k = 8 := by omega
                  have hkd : decide ((k : Int) < 8) = false := decide_eq_false (by omega)
                  have ho := HO.out
                  rw [hk5, List.take_of_length_le (by rw [out_len]; decide)] at ho
                  obtain ⟨g, cp, rfl, _, _, hcell⟩ := owns_cell ho (by rw [out_len]) (by decide)
                  have hcv := conv_string wr g 0 64 cp (SH.out st) (out_len st) (fun j hj => by rw [Nat.zero_add]; exact hcell j (by omega))
                  rw [HSHA.out] at hcv
                  have hk64 : 8 * 8 = 64 := rfl
                  clear ho HO hcell hk5
                  go_wp2_with fail
                  go_ret
                  exact ⟨by rw [HLC.out]; rfl, hb⟩
        · have hd : (((m : Int) % 128) != 112) = true := by rw [bne_iff_ne]; omega
          have hzlt : z < SH.zeros n := by
            rcases Nat.lt_or_ge z (SH.zeros n) with h | h
            · exact h
            · exact absurd (show m % 128 = 112 by unfold SH.zeros at *; omega) hc
          have HZ := hid hz
          have HM := hid hm
          clear hm hc hz hzz
          go_wp2_with fail
          refine (add_lit 0 0 rfl N (N + 1 + 1) (N + 1) TG fg _ _ RT.out (by rw [HLL.out, ← HM.out]; have := HZ.out; have : SH.zeros n ≤ 127 := by (unfold SH.zeros; omega)
                                                                             omega) N1.out N2.out N3.out N4.out N5.out N6.out).mono ?_
          rintro e w3 ⟨rfl, ht, ho⟩
          have T3 := hid ht
          have B3 := hid (RB.out.trans (ho.below (by have := HN.out; simp; omega) RB.out.size))
          clear ht ho cn
          go_wp2_with fail
          go_roundg (gk - 1)
          case measure => omega
          case rel => exact ⟨z + 1, by have := HZ.out; omega, by have := HZ.out; omega, by rw [List.replicate_succ', ← List.append_assoc]; exact T3.out, B3.out⟩

end Go.Proofs.YtceljjnohjnepaaGreatDoor

namespace Go.Proofs.YtceljjnohjnepaaGreatDoor
open Go.RowKit

/-- A slice of bytes that the call has for itself: what it holds. -/
def OwnsB (w : World) (base : Nat) (v : Value) (l : List UInt8) : Prop :=
  (v = .slice none 0 0 ∧ l = []) ∨
  ∃ g cap cur fz, v = .slice (some ⟨g, 0, none⟩) l.length cap ∧ base ≤ g ∧ w.heap[g]? = some (.cells cur 5 fz) ∧ (∀ j, j < cap → w.frozen? ⟨g, j, none⟩ = false) ∧ l.length ≤ cap ∧ cap ≤ maxLen ∧ cur.size = cap ∧ cur.toList.take l.length = u8s l

set_option maxRecDepth 100000 in
theorem OwnsB.nil (w : World) (base : Nat) : OwnsB w base (.slice none 0 0) [] := .inl ⟨rfl, rfl⟩
set_option maxRecDepth 100000 in
theorem OwnsB.keep {w w' : World} {base : Nat} {v : Value} {l : List UInt8} (h : OwnsB w base v l) (hb : Below w.heap.size w w') : OwnsB w' base v l := by
  rcases h with h | ⟨g, cap, cur, fz, h1, h2, h3, h4, h5, h6, h7, h8⟩
  · exact .inl h
  · have e := keepB hb h3
    exact .inr ⟨g, cap, cur, fz, h1, h2, e, fun j hj => by rw [World.frozen?_of_block (w := w) (by simp [e, h3])]; exact h4 j hj, h5, h6, h7, h8⟩
set_option maxRecDepth 100000 in
theorem OwnsB.block {w : World} {base : Nat} {v : Value} {l : List UInt8} (h : OwnsB w base v l) {g : Nat} (hg : v.ownBlock = some g) : base ≤ g := by
  rcases h with ⟨rfl, _⟩ | ⟨g', cap, cur, fz, rfl, hb, _⟩
  · simp [Value.ownBlock] at hg
  · simp [Value.ownBlock] at hg; omega
set_option maxRecDepth 100000 in
theorem OwnsB.cells {w : World} {base : Nat} {v : Value} {l : List UInt8} (h : OwnsB w base v l) (h0 : 0 < l.length) :
    ∃ g cap, v = .slice (some ⟨g, 0, none⟩) l.length cap ∧ base ≤ g ∧ g < w.heap.size ∧ l.length ≤ cap ∧ cap ≤ maxLen ∧ ∀ j, j < l.length → w.cell? ⟨g, j, none⟩ = some (.int .u8 ((l.getD j 0).toNat : Int)) := by
  rcases h with ⟨_, rfl⟩ | ⟨g, cap, cur, fz, rfl, hb, hc, _, hle, hmx, hsz, hxs⟩
  · simp at h0
  refine ⟨g, cap, rfl, hb, lt_blk hc, hle, hmx, fun j hj => ?_⟩
  rw [cell_at hc]
  have h3 : cur.toList[j]? = (u8s l)[j]? := by
    have h4 : (cur.toList.take l.length)[j]? = cur.toList[j]? := by rw [List.getElem?_take, if_pos hj]
    rw [← h4, hxs]
  rw [← Array.getElem?_toList, h3]
  unfold u8s
  simp [hj]
set_option maxRecDepth 100000 in
/-- A text turned into bytes. -/
theorem OwnsB.conv (w : World) (s : ByteArray) (hs : grownCap w s.size 0 5 ≤ maxLen) : OwnsB (Lib.bytesWorld w 5 s) w.heap.size (.slice (some ⟨w.heap.size, 0, none⟩) s.size (grownCap w s.size 0 5)) s.data.toList := by
  have hg : s.size ≤ grownCap w s.size 0 5 := grownCap_ge w s.size 0 5
  have hcs : (Lib.bytesCells w 5 s).size = grownCap w s.size 0 5 := by
    have : s.data.size = s.size := rfl
    simp [Lib.bytesCells]; omega
  refine .inr ⟨w.heap.size, _, _, _, by rw [show s.data.toList.length = s.size by simp], Nat.le_refl _, Lib.bytesWorld_at_new w 5 s, fun j hj => ?_, by simpa using hg, hs, hcs, ?_⟩
  · simp [World.frozen?, Lib.bytesWorld_at_new]; omega
  · unfold Lib.bytesCells u8s
    rw [Array.toList_append, List.take_append_of_le_length (by simp)]
    rw [List.take_of_length_le (by simp)]
    simp

section
variable {P : Program}
set_option maxRecDepth 100000 in
theorem run_append_B (w : World) (base : Nat) (t tx ty : TypeId) (i : TypeInfo) (ht : P.underlying t = some (.slice 5)) (hi : P.info? 5 = some i) (hz : i.zero = some (.int .u8 0)) (hs1 : i.size = 1) (hb1 : i.bytes = 1)
    (v x : Value) (l m : List UInt8) (h : OwnsB w base v l) (hs : Src P 1 tx x m.length (u8s m) w) (hm : 0 < m.length) (hlen : l.length + m.length ≤ 140737488355328) (hbase : base ≤ w.heap.size) :
    ∃ v' w', (Builtin.append_ #[t, tx] ty #[v, x]).run P w = .ok v' w' ∧ OwnsB w' base v' (l ++ m) ∧ w.grownBy w' v.ownBlock := by
  have grow : ∀ (b : Option Addr) (n cap : Nat), n = l.length → cap < n + m.length → (Builtin.firstCells i.size n (.slice b n cap)).run P w.drew = .ok (u8s l).toArray w.drew → v = .slice b n cap →
      ∃ v' w', (Builtin.append_ #[t, tx] ty #[v, x]).run P w = .ok v' w' ∧ OwnsB w' base v' (l ++ m) ∧ w.grownBy w' v.ownBlock := by
    intro b n cap hn hc hf hv
    have hr := run_append_grow_src (P := P) w t tx ty 5 i (.int .u8 0) ht hi hz b n cap (u8s l) hf x m.length (u8s m) (by rw [hs1]; exact hs) hc (by omega) (by
      rw [hb1, Nat.mul_one]
      have := nextslicecap_le hc
      omega)
    rw [hv]
    refine ⟨_, _, hr, .inr ⟨w.heap.size, grownCap w (n + m.length) cap 5, _, (0, 0), by rw [List.length_append, hn], hbase, heap_alloc_new w.drew _, fun j _ => ?_, ?_, ?_, ?_, ?_⟩, ⟨rfl, rfl, rfl, by simp, fun k hk _ => heap_alloc_old w.drew _ hk⟩⟩
    · exact free_at (heap_alloc_new w.drew _) j
    · have := grownCap_ge w (n + m.length) cap 5; rw [List.length_append]; omega
    · exact grownCap_le_maxLen w (n + m.length) cap 5 (by unfold maxLen; omega)
    · have := grownCap_ge w (n + m.length) cap 5
      simp only [Array.size_append, List.size_toArray, List.length_append, u8s_length, size_zeroCells]
      have e1 : (Value.int IntKind.u8 0).cells.size = 1 := rfl
      rw [e1]; omega
    · rw [Array.toList_append, List.take_append_of_le_length (by simp [u8s_length]), List.take_of_length_le (by simp [u8s_length]), u8s_append]
  rcases h with ⟨rfl, rfl⟩ | ⟨g, cap, cur, fz, rfl, hb, hc, hf, hle, hmx, hsz, hxs⟩
  · exact grow none 0 0 rfl (by omega) (by rw [hs1]; exact run_firstCells_none w.drew 1 0 0 0) rfl
  · by_cases hroom : l.length + m.length ≤ cap
    · have hcell : ∀ j, j < cap → (w.cell? ⟨g, j, none⟩).isSome = true := fun j hj => by rw [cell_at hc]; simp; omega
      have hr := run_append_room_src (P := P) w t tx ty 5 i ht hi g 0 l.length cap x m.length (u8s m) (by rw [hs1]; exact hs) hroom (fun j hj => by rw [hs1, Nat.zero_add, Nat.mul_one]; exact hcell _ (by rw [u8s_length] at hj; omega))
        (fun j hj => by rw [hs1, Nat.zero_add, Nat.mul_one]; exact hf _ (by rw [u8s_length] at hj; omega))
      rw [hs1, Nat.zero_add, Nat.mul_one] at hr
      have hcur : cur = (u8s l ++ (cur.toList.drop l.length).take m.length ++ cur.toList.drop (l.length + m.length)).toArray := by
        apply Array.ext'
        simp only []
        rw [← hxs, ← List.drop_drop, List.append_assoc, List.take_append_drop, List.take_append_drop]
      have hset := setCells_row (u8s m) w g (u8s l) ((cur.toList.drop l.length).take m.length) (cur.toList.drop (l.length + m.length)) 5 fz (by rw [← hcur]; exact hc) (by rw [List.length_take, List.length_drop, u8s_length]; simp [hsz]; omega)
      rw [u8s_length] at hset
      rw [hset] at hr
      have hnew := blk_heap (o := .cells (u8s l ++ u8s m ++ cur.toList.drop (l.length + m.length)).toArray 5 fz) (lt_blk hc)
      refine ⟨_, _, hr, .inr ⟨g, cap, _, fz, by rw [List.length_append], hb, hnew, fun j hj => ?_, by rw [List.length_append]; exact hroom, hmx, ?_, ?_⟩, ⟨rfl, rfl, rfl, by simp [blk], fun k hk hn => blk_other k (by rintro rfl; exact hn rfl)⟩⟩
      · have := hf j hj
        unfold World.frozen? at this ⊢
        simp only [] at this ⊢
        rw [hc] at this
        rw [hnew]
        exact this
      · simp only [List.size_toArray, List.length_append, u8s_length, List.length_drop, Array.length_toList]; omega
      · rw [List.length_append]
        rw [List.take_append_of_le_length (by simp [u8s_length]), List.take_of_length_le (by simp [u8s_length]), u8s_append]
    · refine grow (some ⟨g, 0, none⟩) l.length cap rfl (by omega) ?_ rfl
      have := run_firstCells_some (P := P) w.drew i.size l.length ⟨g, 0, none⟩ l.length cap (u8s l) (by rw [hs1, u8s_length, Nat.mul_one]) (fun j u hu => by
        rw [Addr.add_mid, Nat.zero_add]
        show w.cell? _ = _
        rw [cell_at hc, ← Array.getElem?_toList]
        have hj : j < l.length := by have := (List.getElem?_eq_some_iff.1 hu).1; rwa [u8s_length] at this
        have h4 : (cur.toList.take l.length)[j]? = cur.toList[j]? := by rw [List.getElem?_take, if_pos hj]
        rw [← h4, hxs, hu])
      exact this
set_option maxRecDepth 100000 in
theorem wpList_append_B {ops : Array Oper} {rest : List Oper} {o : Oper} {a : Act} {w : World} {Q : Exit → Act → World → Prop} (hgd : o.guard = none) (s x : Operand) (t tx : TypeId)
    (ho : o.op = .call { callee := .builtin .append, args := #[s, x], argTypes := #[t, tx] }) (base : Nat) (i : TypeInfo) (ht : P.underlying t = some (.slice 5)) (hi : P.info? 5 = some i) (hz : i.zero = some (.int .u8 0)) (hs1 : i.size = 1) (hb1 : i.bytes = 1)
    (v y : Value) (hv : a.eval s = v) (hy : a.eval x = y) (l m : List UInt8) (h : OwnsB w base v l) (hs : Src P 1 tx y m.length (u8s m) w) (hm : 0 < m.length) (hlen : l.length + m.length ≤ 140737488355328) (hbase : base ≤ w.heap.size)
    (k : ∀ v' w', OwnsB w' base v' (l ++ m) → w.grownBy w' v.ownBlock → wpList P ops Q rest (a.put o.dst v') w') : wpList P ops Q (o :: rest) a w := by
  refine wpList_plain hgd fun _ hK => ?_
  obtain ⟨v', w', hr, h2, h3⟩ := run_append_B (P := P) w base t tx o.type i ht hi hz hs1 hb1 v y l m h hs hm hlen hbase
  unfold Oper.wp execOp
  simp only [ho, resolve, invoke, builtin, Sem.run_bind, Sem.run_pure, Result.andThen_ok, List.map_toArray, List.map_cons, List.map_nil, hv, hy, hr]
  exact hK _ _ (k v' w' h2 h3)
end

end Go.Proofs.YtceljjnohjnepaaGreatDoor

namespace Go.Proofs.YtceljjnohjnepaaGreatDoor
open Go.RowKit

variable {P : Program}
set_option maxRecDepth 100000 in
theorem zero_cells8 : (Builtin.zeroCells (Value.int IntKind.u8 0).cells 8).toList = u8s [0, 0, 0, 0, 0, 0, 0, 0] := by kernel_rfl
set_option maxRecDepth 100000 in
theorem run_append_room8 (w : World) (t tx ty : TypeId) (i : TypeInfo) (ht : P.underlying t = some (.slice 5)) (hk : P.underlying tx = some (.int .i64)) (hi : P.info? 5 = some i) (hz : i.zero = some (.int .u8 0)) (hs1 : i.size = 1) (hb1 : i.bytes = 1)
    (b sLen sCap : Nat) (hroom : sLen + 8 ≤ sCap) (hc : ∀ j, j < 8 → (w.cell? ⟨b, sLen + j, none⟩).isSome = true) (hf : ∀ j, j < 8 → w.frozen? ⟨b, sLen + j, none⟩ = false) :
    (Builtin.append_ #[t, tx] ty #[.slice (some ⟨b, 0, none⟩) sLen sCap, .int .i64 8]).run P w = .ok (.slice (some ⟨b, 0, none⟩) (sLen + 8) sCap) (w.setCells b sLen (u8s [0, 0, 0, 0, 0, 0, 0, 0])) := by
  have hst := run_storeCells_cells (P := P) b sLen (u8s [0, 0, 0, 0, 0, 0, 0, 0]) 0 w (by simpa [u8s_length] using hc) (by simpa [u8s_length] using hf) (by intro v hv; simp [u8s] at hv; subst hv; rfl)
  simp only [Nat.add_zero] at hst
  have hw8 : IntKind.i64.wrap 8 = 8 := by decide
  simp [Builtin.append_, run_underlying ht, run_underlying hk, sizeOf, typeInfo, zeroValue, hi, hz, hs1, hb1, asInt, asIntOf, hw8, hroom, Addr.add_lit, zero_cells8, hst]

set_option maxRecDepth 100000 in
theorem run_append_grow8 (w : World) (t tx ty : TypeId) (i : TypeInfo) (ht : P.underlying t = some (.slice 5)) (hk : P.underlying tx = some (.int .i64)) (hi : P.info? 5 = some i) (hz : i.zero = some (.int .u8 0)) (hs1 : i.size = 1) (hb1 : i.bytes = 1)
    (base : Option Addr) (sLen sCap : Nat) (olds : List Value) (hold : (Builtin.firstCells 1 sLen (.slice base sLen sCap)).run P w.drew = .ok olds.toArray w.drew) (hg : sCap < sLen + 8) (h63 : sLen + 8 ≤ 140737488355328) :
    (Builtin.append_ #[t, tx] ty #[.slice base sLen sCap, .int .i64 8]).run P w =
      .ok (.slice (some ⟨w.heap.size, 0, none⟩) (sLen + 8) (grownCap w (sLen + 8) sCap 5))
        (w.drew.alloc (.cells ((olds ++ u8s [0, 0, 0, 0, 0, 0, 0, 0]).toArray ++ Builtin.zeroCells (Value.int IntKind.u8 0).cells (grownCap w (sLen + 8) sCap 5 - (sLen + 8))) 5)) := by
  have hn : ¬ (sLen + 8 ≤ sCap) := by omega
  have hw8 : IntKind.i64.wrap 8 = 8 := by decide
  have h63' : ¬ (9223372036854775807 < ((sLen : Int) + 8)) := by omega
  have h63'' : ¬ (9223372036854775807 < ((sLen : Int) + max 8 0)) := by omega
  have hfit : Builtin.nextslicecap (sLen + 8) sCap ≤ 2 * (sLen + 8) := nextslicecap_le hg
  have h48' : ¬ (281474976710656 < Builtin.nextslicecap (sLen + 8) sCap) := by omega
  simp [Builtin.append_, run_underlying ht, run_underlying hk, sizeOf, typeInfo, zeroValue, hi, hz, hs1, hb1, asInt, asIntOf, hw8, hn, h63'', h48', Question.forced, hold, newRow, grownCap]
  congr 2
  apply Array.ext'
  simp [List.append_assoc, zero_cells8]

set_option maxRecDepth 100000 in
theorem run_append_B8 (w : World) (base : Nat) (t tx ty : TypeId) (i : TypeInfo) (ht : P.underlying t = some (.slice 5)) (hk : P.underlying tx = some (.int .i64)) (hi : P.info? 5 = some i) (hz : i.zero = some (.int .u8 0)) (hs1 : i.size = 1) (hb1 : i.bytes = 1)
    (v : Value) (l : List UInt8) (h : OwnsB w base v l) (hlen : l.length + 8 ≤ 140737488355328) (hbase : base ≤ w.heap.size) :
    ∃ v' w', (Builtin.append_ #[t, tx] ty #[v, .int .i64 8]).run P w = .ok v' w' ∧ OwnsB w' base v' (l ++ [0, 0, 0, 0, 0, 0, 0, 0]) ∧ w.grownBy w' v.ownBlock := by
  have grow : ∀ (b : Option Addr) (n cap : Nat), n = l.length → cap < n + 8 → (Builtin.firstCells 1 n (.slice b n cap)).run P w.drew = .ok (u8s l).toArray w.drew → v = .slice b n cap →
      ∃ v' w', (Builtin.append_ #[t, tx] ty #[v, .int .i64 8]).run P w = .ok v' w' ∧ OwnsB w' base v' (l ++ [0, 0, 0, 0, 0, 0, 0, 0]) ∧ w.grownBy w' v.ownBlock := by
    intro b n cap hn hc hf hv
    have hr := run_append_grow8 (P := P) w t tx ty i ht hk hi hz hs1 hb1 b n cap (u8s l) hf hc (by omega)
    rw [hv]
    have hge := grownCap_ge w (n + 8) cap 5
    refine ⟨_, _, hr, .inr ⟨w.heap.size, grownCap w (n + 8) cap 5, _, (0, 0), by rw [List.length_append, hn]; rfl, hbase, heap_alloc_new w.drew _, fun j _ => free_at (heap_alloc_new w.drew _) j, ?_, ?_, ?_, ?_⟩, ⟨rfl, rfl, rfl, by simp, fun k hk _ => heap_alloc_old w.drew _ hk⟩⟩
    · rw [List.length_append, ← hn]; exact hge
    · exact grownCap_le_maxLen w (n + 8) cap 5 (by unfold maxLen; omega)
    · simp only [Array.size_append, List.size_toArray, List.length_append, u8s_length, size_zeroCells]
      have e1 : (Value.int IntKind.u8 0).cells.size = 1 := rfl
      rw [e1, ← hn]
      simp only [List.length_cons, List.length_nil]; omega
    · rw [Array.toList_append, List.take_append_of_le_length (by simp [u8s_length]), List.take_of_length_le (by simp [u8s_length]), u8s_append]
  rcases h with ⟨rfl, rfl⟩ | ⟨g, cap, cur, fz, rfl, hb, hc, hf, hle, hmx, hsz, hxs⟩
  · exact grow none 0 0 rfl (by omega) (run_firstCells_none w.drew 1 0 0 0) rfl
  · by_cases hroom : l.length + 8 ≤ cap
    · have hcell : ∀ j, j < cap → (w.cell? ⟨g, j, none⟩).isSome = true := fun j hj => by rw [cell_at hc]; simp; omega
      have hr := run_append_room8 (P := P) w t tx ty i ht hk hi hz hs1 hb1 g l.length cap hroom (fun j hj => hcell _ (by omega)) (fun j hj => hf _ (by omega))
      have hcur : cur = (u8s l ++ (cur.toList.drop l.length).take 8 ++ cur.toList.drop (l.length + 8)).toArray := by
        apply Array.ext'
        simp only []
        rw [← hxs, ← List.drop_drop, List.append_assoc, List.take_append_drop, List.take_append_drop]
      have hset := setCells_row (u8s [0, 0, 0, 0, 0, 0, 0, 0]) w g (u8s l) ((cur.toList.drop l.length).take 8) (cur.toList.drop (l.length + 8)) 5 fz (by rw [← hcur]; exact hc) (by rw [List.length_take, List.length_drop, u8s_length]; simp [hsz]; omega)
      rw [u8s_length] at hset
      rw [hset] at hr
      have hnew := blk_heap (o := .cells (u8s l ++ u8s [0, 0, 0, 0, 0, 0, 0, 0] ++ cur.toList.drop (l.length + 8)).toArray 5 fz) (lt_blk hc)
      refine ⟨_, _, hr, .inr ⟨g, cap, _, fz, by rw [List.length_append]; rfl, hb, hnew, fun j hj => ?_, by rw [List.length_append]; exact hroom, hmx, ?_, ?_⟩, ⟨rfl, rfl, rfl, by simp [blk], fun k hk hn => blk_other k (by rintro rfl; exact hn rfl)⟩⟩
      · have := hf j hj
        unfold World.frozen? at this ⊢
        simp only [] at this ⊢
        rw [hc] at this
        rw [hnew]
        exact this
      · simp only [List.size_toArray, List.length_append, u8s_length, List.length_drop, Array.length_toList, List.length_cons, List.length_nil]; omega
      · rw [List.length_append, List.take_append_of_le_length (by simp [u8s_length]), List.take_of_length_le (by simp [u8s_length]), u8s_append]
    · refine grow (some ⟨g, 0, none⟩) l.length cap rfl (by omega) ?_ rfl
      exact run_firstCells_some (P := P) w.drew 1 l.length ⟨g, 0, none⟩ l.length cap (u8s l) (by rw [u8s_length, Nat.mul_one]) (fun j u hu => by
        rw [Addr.add_mid, Nat.zero_add]
        show w.cell? _ = _
        rw [cell_at hc, ← Array.getElem?_toList]
        have hj : j < l.length := by have := (List.getElem?_eq_some_iff.1 hu).1; rwa [u8s_length] at this
        have h4 : (cur.toList.take l.length)[j]? = cur.toList[j]? := by rw [List.getElem?_take, if_pos hj]
        rw [← h4, hxs, hu])
set_option maxRecDepth 100000 in
theorem wpList_append_B8 {ops : Array Oper} {rest : List Oper} {o : Oper} {a : Act} {w : World} {Q : Exit → Act → World → Prop} (hgd : o.guard = none) (s : Operand) (t tx : TypeId)
    (ho : o.op = .call { callee := .builtin .append, args := #[s, .const (.int .i64 8)], argTypes := #[t, tx] }) (base : Nat) (i : TypeInfo) (ht : P.underlying t = some (.slice 5)) (hk : P.underlying tx = some (.int .i64)) (hi : P.info? 5 = some i) (hz : i.zero = some (.int .u8 0)) (hs1 : i.size = 1) (hb1 : i.bytes = 1)
    (v : Value) (hv : a.eval s = v) (l : List UInt8) (h : OwnsB w base v l) (hlen : l.length + 8 ≤ 140737488355328) (hbase : base ≤ w.heap.size)
    (k : ∀ v' w', OwnsB w' base v' (l ++ [0, 0, 0, 0, 0, 0, 0, 0]) → w.grownBy w' v.ownBlock → wpList P ops Q rest (a.put o.dst v') w') : wpList P ops Q (o :: rest) a w := by
  refine wpList_plain hgd fun _ hK => ?_
  obtain ⟨v', w', hr, h2, h3⟩ := run_append_B8 (P := P) w base t tx o.type i ht hk hi hz hs1 hb1 v l h hlen hbase
  unfold Oper.wp execOp
  have he : a.eval (.const (.int .i64 8)) = .int .i64 8 := rfl
  simp only [ho, resolve, invoke, builtin, Sem.run_bind, Sem.run_pure, Result.andThen_ok, List.map_toArray, List.map_cons, List.map_nil, hv, he, hr]
  exact hK _ _ (k v' w' h2 h3)

end Go.Proofs.YtceljjnohjnepaaGreatDoor
