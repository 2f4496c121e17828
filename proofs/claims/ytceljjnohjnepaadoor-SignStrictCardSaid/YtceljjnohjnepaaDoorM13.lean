/- The walk of the program's digest. A row of bytes that is appended to, wherever it came from. Noughts appended to a row of bytes. The walk of the document's digest. The walks of the digest's laws: alive; what the digest of a text is. Plain laws of rows of bytes: which is less, differences, sums with carries. The walks of the document's numbers: less, minus. The walks of the document's numbers: minus. A region that draws its order, in which just the first two operations may come either way: both ways. The walks of the document's numbers: Order, Of. The walks of the order's Same, Canonical, Clamp. The walks of the document's numbers: Bytes, Canonical, MulAdd. -/
import Derived.Test.YtceljjnohjnepaaDoorM12
import Derived.Test.YtceljjnohjnepaaDoorM03
import Derived.Deep.LoopGhost
import Derived.Deep.AppendSrc
import Derived.Laws.AppendOwn
import Derived.Test.YtceljjnohjnepaaDoorM02
import Derived.Test.YtceljjnohjnepaaDoorM10
import Derived.Deep.MidRow
import Derived.Deep.Cut
import Derived.Test.YtceljjnohjnepaaDoorM01
import Derived.Test.YtceljjnohjnepaaDoorM11
namespace Go.Proofs.YtceljjnohjnepaaDoor
open Go.RowKit

set_option maxRecDepth 100000 in
@[go_sem] theorem zero128 (w : World) : (zeroValue 78).run Tryd.prog w = .ok (.agg (brow (List.replicate 128 0))) w := by kernel_rfl
/-- The bytes of texts, one behind the other. -/
def cat (ss : List ByteArray) : List UInt8 := (ss.map fun s => s.data.toList).flatten
set_option maxRecDepth 100000 in
theorem cat_snoc (ss : List ByteArray) (s : ByteArray) : cat (ss ++ [s]) = cat ss ++ s.data.toList := by simp [cat]
set_option maxRecDepth 100000 in
theorem cat_take_succ (ss : List ByteArray) (k : Nat) (h : k < ss.length) : cat (ss.take (k + 1)) = cat (ss.take k) ++ (ss.getD k ByteArray.empty).data.toList := by
  rw [List.take_succ_eq_append_getElem h, cat_snoc]; simp [h]
set_option maxRecDepth 100000 in
theorem cat_take_le (ss : List ByteArray) (k : Nat) : (cat (ss.take k)).length ≤ (cat ss).length := by
  have : cat ss = cat (ss.take k) ++ cat (ss.drop k) := by unfold cat; rw [← List.flatten_append, ← List.map_append, List.take_append_drop]
  rw [this, List.length_append]; omega

set_option maxRecDepth 100000 in
theorem Taken.below {sb nb bb : Nat} {TG : TypeId} {fg : Nat × Nat} {l : List UInt8} {w w' : World} (h : Taken sb nb bb TG fg l w) (hb : Below w.heap.size w w') : Taken sb nb bb TG fg l w' := by
  obtain ⟨h1, h2, ⟨B, h3, h4, h5⟩, h6⟩ := h
  exact ⟨keepB hb h1, keepB hb h2, ⟨B, h3, h4, keepB hb h5⟩, keepB hb h6⟩
set_option maxRecDepth 100000 in
theorem Laid.but {w w' : World} {b : Nat} {l : List UInt8} {L : List Nat} (h : Laid w b l) (hb : But L w w') (hn : b ∉ L) : Laid w' b l := by
  obtain ⟨C, T, n, h1, h2, h3⟩ := h.ex
  exact ⟨⟨C, T, n, hb.keep h1 hn, h2, h3⟩⟩
set_option maxRecDepth 100000 in
theorem add_lit (c : UInt8) (k : Int) (hk : (c.toNat : Int) = k) (sb nb bb : Nat) (TG : TypeId) (fg : Nat × Nat) (l : List UInt8) (w : World) (h : Taken sb nb bb TG fg l w) (hl : l.length < 1152921504606846976) (h1 : sb ≠ nb) (h2 : sb ≠ bb) (h3 : nb ≠ bb) (h4 : sb ≠ 0) (h5 : nb ≠ 0) (h6 : bb ≠ 0) :
    Calls Tryd.prog 44 #[.int .u8 k, .pointer (some ⟨bb, 0, none⟩), .pointer (some ⟨nb, 0, none⟩), .pointer (some ⟨sb, 0, none⟩)] w
      fun e w' => e = .returned (.tuple #[]) ∧ Taken sb nb bb TG fg (l ++ [c]) w' ∧ But [sb, nb, bb] w w' := by
  subst hk; exact sadd_any c sb nb bb TG fg l w h hl h1 h2 h3 h4 h5 h6

set_option maxRecDepth 100000 in
theorem idx8 (l : List UInt64) (hl : l.length = 8) (i : Nat) (hi : i < 8) (w : World) : (Instr.index 77 (.agg (wrow l)) (.int .i64 (i : Int))).run Tryd.prog w = .ok (.int .u64 (UW (l.getD i 0))) w := by
  have hsz : (sizeOf 34).run Tryd.prog w = .ok 1 w := by kernel_rfl
  unfold Instr.index
  simp only [Sem.run_bind, asIntOf, Sem.run_pure, Result.andThen_ok, run_underlying Tryd.underlying77]
  rw [if_pos (by omega)]
  simp only [Sem.run_bind, hsz, Result.andThen_ok, Nat.mul_one, Int.toNat_natCast]
  unfold part
  have hagg : (isAgg 34).run Tryd.prog w = .ok false w := by
    unfold isAgg
    rw [Sem.run_bind, run_underlying Tryd.underlying34 w]
    rfl
  simp [Sem.run_bind, hagg, wrow_get l (show i < l.length by omega)]

set_option maxRecDepth 100000 in
theorem byte_of (x : UInt64) (k : Nat) (h : k < 64) : ((x >>> UInt64.ofNat k).toUInt8.toNat : Int) = UW x / (2 : Int) ^ k % 256 := by
  rw [u_shr x k h]
  unfold UW
  rw [UInt64.toNat_toUInt8]; omega
set_option maxRecDepth 100000 in
theorem bytes8_getD (x : UInt64) (j : Nat) (h : j < 8) : (SH.bytes8 x).getD j 0 = (x >>> UInt64.ofNat (56 - 8 * j)).toUInt8 := by
  match j, h with
  | 0, _ => rfl
  | 1, _ => rfl
  | 2, _ => rfl
  | 3, _ => rfl
  | 4, _ => rfl
  | 5, _ => rfl
  | 6, _ => rfl
  | 7, _ => rfl
/-- What stands behind the noughts. -/
def tail16 (n : Nat) : List UInt8 := List.replicate 8 0 ++ SH.bytes8 (8 * UInt64.ofNat n)
set_option maxRecDepth 100000 in
theorem tail_lo (n i : Nat) (h : i < 8) : (tail16 n).getD i 0 = 0 := by
  match i, h with
  | 0, _ => rfl
  | 1, _ => rfl
  | 2, _ => rfl
  | 3, _ => rfl
  | 4, _ => rfl
  | 5, _ => rfl
  | 6, _ => rfl
  | 7, _ => rfl
set_option maxRecDepth 100000 in
theorem tail_hi (n i : Nat) (hn : n < 1152921504606846976) (h : 8 ≤ i) (h2 : i < 16) : ((((tail16 n).getD i 0).toNat : Nat) : Int) = 8 * (n : Int) / (2 : Int) ^ (120 - 8 * i) % 256 := by
  have e1 : (tail16 n).getD i 0 = (SH.bytes8 (8 * UInt64.ofNat n)).getD (i - 8) 0 := by
    obtain ⟨j, rfl⟩ : ∃ j, i = j + 8 := ⟨i - 8, by omega⟩
    rw [show j + 8 - 8 = j by omega]
    rfl
  have e2 : UW (8 * UInt64.ofNat n) = 8 * (n : Int) := by
    unfold UW
    rw [UInt64.toNat_mul, UInt64.toNat_ofNat', show (8 : UInt64).toNat = 8 from rfl, Nat.mod_eq_of_lt (a := n) (b := 2 ^ 64) (by omega), Nat.mod_eq_of_lt (by omega)]
    omega
  rw [e1, bytes8_getD _ _ (by omega), byte_of _ _ (by omega), e2, show 56 - 8 * (i - 8) = 120 - 8 * i by omega]
set_option maxRecDepth 100000 in
theorem tail_len (n : Nat) : (tail16 n).length = 16 := rfl
set_option maxRecDepth 100000 in
theorem pad_eq (l : List UInt8) : SH.pad l = l ++ [128] ++ List.replicate (SH.zeros l.length) 0 ++ tail16 l.length := by
  unfold SH.pad tail16; simp only [List.append_assoc]
set_option maxRecDepth 100000 in
theorem out_getD (st : SH.St) (k j : Nat) (hk : k < 8) (hj : j < 8) : (SH.out st).getD (8 * k + j) 0 = (SH.bytes8 ((stl st).getD k 0)).getD j 0 := by
  have hk' : k = 0 ∨ k = 1 ∨ k = 2 ∨ k = 3 ∨ k = 4 ∨ k = 5 ∨ k = 6 ∨ k = 7 := by omega
  have hj' : j = 0 ∨ j = 1 ∨ j = 2 ∨ j = 3 ∨ j = 4 ∨ j = 5 ∨ j = 6 ∨ j = 7 := by omega
  rcases hk' with rfl | rfl | rfl | rfl | rfl | rfl | rfl | rfl <;> rcases hj' with rfl | rfl | rfl | rfl | rfl | rfl | rfl | rfl <;> rfl
set_option maxRecDepth 100000 in
theorem out_len (st : SH.St) : (SH.out st).length = 64 := rfl
set_option maxRecDepth 100000 in
theorem out_step (st : SH.St) (k j : Nat) (hk : k < 8) (hj : j < 8) : u8s ((SH.out st).take (8 * k + j)) ++ [.int .u8 (UW ((stl st).getD k 0) / (2 : Int) ^ (56 - 8 * j) % 256)] = u8s ((SH.out st).take (8 * k + (j + 1))) := by
  have hm : 8 * k + j < (SH.out st).length := by rw [out_len]; omega
  have e : (SH.out st)[8 * k + j] = (SH.out st).getD (8 * k + j) 0 := by simp [hm]
  rw [show 8 * k + (j + 1) = (8 * k + j) + 1 by omega, List.take_succ_eq_append_getElem hm, u8s_append, e, out_getD st k j hk hj, bytes8_getD _ _ hj]
  unfold u8s
  simp only [List.map_cons, List.map_nil]
  rw [byte_of _ _ (by omega)]

set_option maxRecDepth 100000 in
set_option maxHeartbeats 4000000 in
theorem sOf_any (ss : List ByteArray) (a : Option Addr) (cap : Nat) (TG : TypeId) (fg : Nat × Nat) (W : World) (hG : W.heap[0]? = some (.cells (wrow SH.K) TG fg)) (hb : (cat ss).length < 1152921504606846976 - 300) (hl : ss.length ≤ 9223372036854775807)
    (ha : ss.length = 0 ∨ ∃ bw off, a = some ⟨bw, off, none⟩ ∧ ∀ j, j < ss.length → W.cell? ⟨bw, off + j, none⟩ = some (.string (ss.getD j ByteArray.empty))) :
    Calls Tryd.prog 23 #[.slice a ss.length cap] W fun e w' => e = .returned (.string ⟨(SH.sha (cat ss)).toArray⟩) ∧ Below W.heap.size W w' := by
  have h0 : 0 < W.heap.size := lt_blk hG
  have HG := hid hG
  have HA := hid ha
  clear hG ha
  generalize hlen : ss.length = len at *
  have HL := hid hlen
  clear hlen
  go_enter Tryd.func23, Tryd.ntmps23
  go_wp2_with fail
  obtain ⟨N, hN⟩ : ∃ N, N = W.heap.size := ⟨_, rfl⟩
  rw [← hN]
  have HN := hid hN
  have n1 : N ≠ N + 1 + 1 := by omega
  have n2 : N ≠ N + 1 := by omega
  have n3 : N + 1 + 1 ≠ N + 1 := by omega
  have n4 : N ≠ 0 := by omega
  have n5 : N + 1 + 1 ≠ 0 := by omega
  have n6 : N + 1 ≠ 0 := by omega
  have N1 := hid n1
  have N2 := hid n2
  have N3 := hid n3
  have N4 := hid n4
  have N5 := hid n5
  have N6 := hid n6
  clear n1 n2 n3 n4 n5 n6
  go_loopw [21] (fun i wr => ∃ k : Nat, k ≤ len ∧ i = .int .i64 (k : Int) ∧ Taken N (N + 1 + 1) (N + 1) TG fg (cat (ss.take k)) wr ∧ Below W.heap.size W wr) (fun i _ => (len - intOf i).toNat)
  case atStart =>
    have hc0 : cat (ss.take 0) = [] := by simp [cat]
    refine ⟨0, by omega, rfl, ⟨by rw [hc0]; exact alloc_old (alloc_old (alloc_at' hN _)), by rw [hc0]; exact alloc_at' (by simp [hN]) _, ⟨List.replicate 128 0, rfl, by simp [cat], alloc_old (alloc_at' (by simp [hN]) _)⟩, alloc_old (alloc_old (alloc_old HG.out))⟩, below_alloc (below_alloc (below_new _) _) _⟩
  case round =>
    clear hN
    obtain ⟨k, hk, rfl, rT, rb⟩ := hrel
    have RT := hid rT
    have RB := hid rb
    have hsz := rb.size
    have lN := lt_blk rT.num
    clear rT
    by_cases hlt : k < len
    · have hd : decide ((k : Int) < (len : Int)) = true := decide_eq_true (by omega)
      have hk0 : 0 ≤ (k : Int) := by omega
      have hk1 : (k : Int) < (len : Int) := by omega
      obtain ⟨bw, off, rfl, hc⟩ := HA.out.resolve_left (by omega)
      have hbw := World.block_lt_of_cell? W _ (hc k hlt)
      have cs := (rb.cell (p := ⟨bw, off + k, none⟩) hbw).trans (hc k hlt)
      have hcat := cat_take_succ ss k (by rw [HL.out]; exact hlt)
      have hle := cat_take_le ss (k + 1)
      generalize ss.getD k ByteArray.empty = s at *
      rw [hcat] at hle
      have HCAT := hid hcat
      have HLE := hid hle
      clear hc hcat hle rb
      have hss : s.size ≤ 9223372036854775807 := by have := HLE.out; rw [List.length_append] at this; simp at this; omega
      go_wp2_with fail
      have hL := laid_bytes wr s
      have hB := bytesWorld_below wr 5 s
      have T2 := hid (RT.out.below hB)
      have B2 := hid (below_to RB.out hB)
      have L2 := hid hL
      clear hB hL RT RB cs
      generalize Lib.bytesWorld wr 5 s = w2 at *
      generalize wr.heap.size = X at *
      generalize grownCap wr s.size 0 5 = cp at *
      have hX : X ∉ [N, N + 1 + 1, N + 1] := by simp; omega
      have HX := hid hX
      have hll : s.data.toList.length = s.size := by simp
      have HLL := hid hll
      clear hX hll
      go_loopw [28] (fun i wr => ∃ j : Nat, j ≤ s.size ∧ i = .int .i64 (j : Int) ∧ Taken N (N + 1 + 1) (N + 1) TG fg (cat (ss.take k) ++ s.data.toList.take j) wr ∧ Laid wr X s.data.toList ∧ Below W.heap.size W wr) (fun i _ => (s.size - intOf i).toNat)
      case atStart => exact ⟨0, by omega, rfl, by rw [List.take_zero, List.append_nil]; exact T2.out, L2.out, B2.out⟩
      case round =>
        clear T2 B2 L2
        obtain ⟨j, hj, rfl, rT, rL, rb⟩ := hrel
        have RT := hid rT
        have RL := hid rL
        have RB := hid rb
        by_cases hlt2 : j < s.size
        · have hd2 : decide ((j : Int) < (s.size : Int)) = true := decide_eq_true (by omega)
          have hj0 : 0 ≤ (j : Int) := by omega
          have hj1 : (j : Int) < (s.size : Int) := by omega
          have cj := rL.cell (j := j) (by rw [HLL.out]; exact hlt2)
          have htk : s.data.toList.take (j + 1) = s.data.toList.take j ++ [s.data.toList.getD j 0] := by
            rw [List.take_succ_eq_append_getElem (by rw [HLL.out]; exact hlt2)]; simp [hlt2]
          generalize s.data.toList.getD j 0 = c at *
          have HTK := hid htk
          clear htk rT rL rb
          go_wp2_with fail
          refine (sadd_any c N (N + 1 + 1) (N + 1) TG fg _ _ RT.out (by have := HLE.out; rw [List.length_append] at this; rw [List.length_append, List.length_take]; omega) N1.out N2.out N3.out N4.out N5.out N6.out).mono ?_
          rintro e w3 ⟨rfl, ht, ho⟩
          have T3 := hid ht
          have L3 := hid (RL.out.but ho HX.out)
          have B3 := hid (RB.out.trans (ho.below (by have := HN.out; simp; omega) RB.out.size))
          clear ht ho cj
          go_wp2_with fail
          exact ⟨⟨j + 1, by omega, by go_num, by rw [HTK.out, ← List.append_assoc]; exact T3.out, L3.out, B3.out⟩, by simp [intOf]; omega⟩
        · have hd2 : decide ((j : Int) < (s.size : Int)) = false := decide_eq_false (by omega)
          have hdn2 : decide (j < s.size) = false := decide_eq_false hlt2
          have hj5 : j = s.size := by omega
          have hts : s.data.toList.take s.size = s.data.toList := List.take_of_length_le (by rw [HLL.out]; exact Nat.le_refl _)
          rw [hj5, hts, ← HCAT.out] at rT
          have RT2 := hid rT
          clear rT rL rb RT hj5 hts
          go_wp2_with fail
          exact ⟨⟨k + 1, by omega, by go_num, RT2.out, RB.out⟩, by simp [intOf]; omega⟩
    · have hd : decide ((k : Int) < (len : Int)) = false := decide_eq_false (by omega)
      have hdn : decide (k < len) = false := decide_eq_false hlt
      have hk5 : k = len := by omega
      have ht := RT.out
      have hts : ss.take len = ss := List.take_of_length_le (by rw [HL.out]; exact Nat.le_refl _)
      rw [hk5, hts] at ht
      clear hts
      have hbl : (cat ss).length < 1152921504606846976 - 300 := hb
      generalize hLc : cat ss = L at *
      have HLC := hid hLc
      clear hLc
      obtain ⟨n, hn⟩ : ∃ n, L.length = n := ⟨_, rfl⟩
      have cn : wr.cell? ⟨N + 1 + 1, 0, none⟩ = some (.int .u64 (n : Int)) := by rw [cell_at ht.num, hn]; rfl
      rw [hn] at hbl
      have HNL := hid hn
      have T1 := hid ht
      clear ht RT hk5 hb hk hlt rb hn
      go_wp2_with fail
      refine (add_lit 128 128 rfl N (N + 1 + 1) (N + 1) TG fg L _ T1.out (by rw [HNL.out]; omega) N1.out N2.out N3.out N4.out N5.out N6.out).mono ?_
      rintro e w2 ⟨rfl, ht, ho⟩
      have T2 := hid ht
      have B2 := hid (RB.out.trans (ho.below (by have := HN.out; simp; omega) RB.out.size))
      clear ht ho cn T1 RB hd hsz lN
      go_wp2_with fail
      go_loopg [] (SH.zeros n + 1) (fun g wr => ∃ z : Nat, z + g = SH.zeros n + 1 ∧ 0 < g ∧ Taken N (N + 1 + 1) (N + 1) TG fg (L ++ [128] ++ List.replicate z 0) wr ∧ Below W.heap.size W wr)
      case atStart => exact ⟨0, by omega, by omega, by rw [List.replicate_zero, List.append_nil]; exact T2.out, B2.out⟩
      case round =>
        obtain ⟨z, hz, hg, rT, rb⟩ := hrel
        have RT := hid rT
        have RB := hid rb
        obtain ⟨m, hm⟩ : ∃ m, n + 1 + z = m := ⟨_, rfl⟩
        have hll : (L ++ [128] ++ List.replicate z 0).length = m := by rw [List.length_append, List.length_append, HNL.out, List.length_replicate, ← hm]; rfl
        have cn : wr.cell? ⟨N + 1 + 1, 0, none⟩ = some (.int .u64 (m : Int)) := by rw [cell_at rT.num, hll]; rfl
        have HLL := hid hll
        have hzz : SH.zeros n ≤ 127 := by unfold SH.zeros; omega
        clear rT rb hll
        by_cases hc : m % 128 = 112
        · have hd : (((m : Int) % 128) != 112) = false := by rw [bne_eq_false_iff_eq]; omega
          have hz5 : z = SH.zeros n := by unfold SH.zeros at hz hzz ⊢; omega
          have HZ5 := hid hz5
          have HM := hid hm
          clear hz5 hm hz hc
          go_wp2_with fail
          have rT := RT.out
          rw [HZ5.out] at rT
          generalize hL2 : L ++ [128] ++ List.replicate (SH.zeros n) 0 = L2 at *
          have RT2 := hid rT
          have HL2 := hid hL2
          have hlen2 : L2.length < 1152921504606846976 - 20 := by rw [← HL2.out, ← HZ5.out, HLL.out, ← HM.out]; have := HZ5.out; omega
          clear rT RT hL2 HLL cn hd
          go_loopw [46] (fun i wr => ∃ k : Nat, k ≤ 16 ∧ i = .int .i64 (k : Int) ∧ Taken N (N + 1 + 1) (N + 1) TG fg (L2 ++ (tail16 n).take k) wr ∧ Below W.heap.size W wr) (fun i _ => (16 - intOf i).toNat)
          case atStart => exact ⟨0, by omega, rfl, by rw [List.take_zero, List.append_nil]; exact RT2.out, RB.out⟩
          case round =>
            clear RT2 RB
            obtain ⟨k, hk, rfl, rT, rb⟩ := hrel
            have RT := hid rT
            have RB := hid rb
            have htl := tail_len n
            have hlen3 : (L2 ++ (tail16 n).take k).length < 1152921504606846976 := by rw [List.length_append, List.length_take]; omega
            have HLEN3 := hid hlen3
            clear rT rb hlen3
            by_cases hlt : k < 16
            · have hd : decide ((k : Int) < 16) = true := decide_eq_true (by omega)
              have htk : (tail16 n).take (k + 1) = (tail16 n).take k ++ [(tail16 n).getD k 0] := by
                rw [List.take_succ_eq_append_getElem (by rw [htl]; exact hlt)]; simp [htl, hlt]
              by_cases hlo : k < 8
              · have hd8 : decide ((k : Int) < 8) = true := decide_eq_true (by omega)
                rw [tail_lo n k hlo] at htk
                have HTK := hid htk
                clear htk htl
                go_wp2_with fail
                refine (add_lit 0 0 rfl N (N + 1 + 1) (N + 1) TG fg _ _ RT.out HLEN3.out N1.out N2.out N3.out N4.out N5.out N6.out).mono ?_
                rintro e w3 ⟨rfl, ht, ho⟩
                have T3 := hid ht
                have B3 := hid (RB.out.trans (ho.below (by have := HN.out; simp; omega) RB.out.size))
                clear ht ho
                go_wp2_with fail
                exact ⟨⟨k + 1, by omega, by go_num, by rw [HTK.out, ← List.append_assoc]; exact T3.out, B3.out⟩, by simp [intOf]; omega⟩
              · have hd8 : decide ((k : Int) < 8) = false := decide_eq_false (by omega)
                have hth := tail_hi n k (by omega) (by omega) hlt
                have hsub : (120 : Int) - 8 * (k : Int) = ((120 - 8 * k : Nat) : Int) := by omega
                have hsh : 120 - 8 * k < 64 := by omega
                have hk0 : 0 ≤ (k : Int) := by omega
                have hk1 : (k : Int) < 16 := by omega
                have hk8 : 8 ≤ (k : Int) := by omega
                have HTH := hid hth
                have HTK := hid htk
                generalize (tail16 n).getD k 0 = c at *
                clear htk htl hth
                go_wp2_with fail
                refine (add_lit c _ HTH.out N (N + 1 + 1) (N + 1) TG fg _ _ RT.out HLEN3.out N1.out N2.out N3.out N4.out N5.out N6.out).mono ?_
                rintro e w3 ⟨rfl, ht, ho⟩
                have T3 := hid ht
                have B3 := hid (RB.out.trans (ho.below (by have := HN.out; simp; omega) RB.out.size))
                clear ht ho
                go_wp2_with fail
                exact ⟨⟨k + 1, by omega, by go_num, by rw [HTK.out, ← List.append_assoc]; exact T3.out, B3.out⟩, by simp [intOf]; omega⟩
            · have hd : decide ((k : Int) < 16) = false := decide_eq_false (by omega)
              have hk5 : k = 16 := by omega
              have hP : L2 ++ (tail16 n).take k = SH.pad L := by
                rw [hk5, List.take_of_length_le (by rw [htl]; exact Nat.le_refl _), ← HL2.out, pad_eq, HNL.out]
              have rT := RT.out
              rw [hP] at rT
              have rS := rT.st
              generalize hst : SH.run (SH.pad L) ((SH.pad L).length / 128) = st at *
              have hsha : SH.out st = SH.sha L := by unfold SH.sha; rw [hst]
              have HSHA := hid hsha
              obtain ⟨c0, c1, c2, c3, c4, c5, c6, c7⟩ := oct_cells rS
              obtain ⟨x0, x1, x2, x3, x4, x5, x6, x7⟩ := st
              have hix : ∀ i : Nat, i < 8 → ∀ w, (Instr.index 77 (.agg #[.int .u64 (UW x0), .int .u64 (UW x1), .int .u64 (UW x2), .int .u64 (UW x3), .int .u64 (UW x4), .int .u64 (UW x5), .int .u64 (UW x6), .int .u64 (UW x7)]) (.int .i64 (i : Int))).run Tryd.prog w = .ok (.int .u64 (UW ((stl ⟨x0, x1, x2, x3, x4, x5, x6, x7⟩).getD i 0))) w := by
                intro i hi w
                exact idx8 (stl ⟨x0, x1, x2, x3, x4, x5, x6, x7⟩) rfl i hi w
              have HIX := hid hix
              obtain ⟨i0, hi, hz0, hz1, hz2⟩ := info_parts info_u8
              clear rT rS RT hst hsha hk5 hP hix htl
              go_wp2_with fail
              clear c0 c1 c2 c3 c4 c5 c6 c7 hd
              generalize hst : (⟨x0, x1, x2, x3, x4, x5, x6, x7⟩ : SH.St) = st at *
              clear hst
              go_loopw [13, 64] (fun v i wr => ∃ k : Nat, k ≤ 8 ∧ i = .int .i64 (k : Int) ∧ wr.ownsRow W.heap.size 5 1 v (8 * k) (u8s ((SH.out st).take (8 * k))) ∧ Below W.heap.size W wr) (fun _ i _ => (8 - intOf i).toNat)
              case atStart => exact ⟨0, by omega, rfl, ⟨rfl, .inl ⟨rfl, rfl⟩⟩, RB.out⟩
              case round =>
                clear RB
                obtain ⟨k, hk, rfl, hown, hb⟩ := hrel
                have HO := hid hown
                clear hown
                by_cases hk4 : k < 8
                · have hx := HIX.out k hk4
                  have hkd : decide ((k : Int) < 8) = true := decide_eq_true (by omega)
                  generalize hxx : (stl st).getD k 0 = x at *
                  have HX := hid hxx
                  clear hxx
                  go_wp2_with fail
                  clear hx
                  go_loopw [13, 67] (fun v i wq => ∃ j : Nat, j ≤ 8 ∧ i = .int .i64 (j : Int) ∧ wq.ownsRow W.heap.size 5 1 v (8 * k + j) (u8s ((SH.out st).take (8 * k + j))) ∧ Below W.heap.size W wq) (fun _ i _ => (8 - intOf i).toNat)
                  case atStart => exact ⟨0, by omega, rfl, HO.out, hb⟩
                  case round =>
                    obtain ⟨j, hj, rfl, hown, hb⟩ := hrel
                    have HOJ := hid hown
                    clear hown
                    by_cases hj8 : j < 8
                    · have hj0 : 0 ≤ (j : Int) * 8 := by omega
                      have hjd : decide ((j : Int) < 8) = true := decide_eq_true (by omega)
                      have hml : (8 * k + j) + 1 ≤ maxLen := by unfold maxLen; omega
                      have hsub : (56 : Int) - 8 * (j : Int) = ((56 - 8 * j : Nat) : Int) := by omega
                      have hsh : 56 - 8 * j < 64 := by omega
                      have hj1 : 0 ≤ (j : Int) := by omega
                      have hj2 : (j : Int) < 8 := by omega
                      have hstp := out_step st k j hk4 hj8
                      rw [HX.out] at hstp
                      have HSTP := hid hstp
                      clear hstp
                      go_wp2_with (at_builtin; refine wpList_append_own _ rfl _ _ 27 rfl W.heap.size 5 i0 (.int .u8 0) 1 1 Tryd.underlying27 hi hz0 hz1 hz2 rfl (by decide) _ _ _ rfl (HOJ.out.alloc _) ⟨wr.heap.size, 0, none⟩ 1 1 [.int .u8 (UW x / (2 : Int) ^ (56 - 8 * j) % 256)] rfl rfl ?c1 ?c2 hml ?c4 ?c5 ?_)
                      case c1 => exact cell_one_new _ _ _
                      case c2 => intro u hu; simp only [List.mem_cons, List.not_mem_nil, or_false] at hu; subst hu; rfl
                      case c4 => omega
                      case c5 => have := hb.size; simp; omega
                      intro v' w1 hown' hgrow _
                      have hb2 : Below W.heap.size W w1 := (below_alloc hb _).grown hgrow (by have := hb.size; simp; omega) (fun g hg => block_le HOJ.out hg)
                      rw [HSTP.out] at hown'
                      have HO' := hid hown'
                      clear hown' hgrow hml
                      go_wp2_with fail
                      go_roundw
                      case rel => exact ⟨j + 1, by omega, by go_num, HO'.out, hb2⟩
                      case measure => simp [intOf]; omega
                    · have hj9 : j = 8 := by omega
                      have hjd : decide ((j : Int) < 8) = false := decide_eq_false (by omega)
                      have ho := HOJ.out
                      rw [hj9, show 8 * k + 8 = 8 * (k + 1) by omega] at ho
                      have HO2 := hid ho
                      clear ho HOJ hj9
                      go_wp2_with fail
                      exact ⟨⟨k + 1, by omega, by go_num, HO2.out, hb⟩, by simp [intOf]; omega⟩
                · have hk5 : k = 8 := by omega
                  have hkd : decide ((k : Int) < 8) = false := decide_eq_false (by omega)
                  have ho := HO.out
                  rw [hk5, List.take_of_length_le (by rw [out_len]; decide)] at ho
                  obtain ⟨g, cp, rfl, _, _, hcell⟩ := owns_cell ho (by rw [out_len]) (by decide)
                  have hcv := conv_string wr g 0 64 cp (SH.out st) (out_len st) (fun j hj => by rw [Nat.zero_add]; exact hcell j (by omega))
                  rw [HSHA.out] at hcv
                  have hk64 : 8 * 8 = 64 := rfl
                  clear ho HO hcell hk5
                  go_wp2_with fail
                  go_ret
                  exact ⟨by rw [HLC.out]; rfl, hb⟩
        · have hd : (((m : Int) % 128) != 112) = true := by rw [bne_iff_ne]; omega
          have hzlt : z < SH.zeros n := by
            rcases Nat.lt_or_ge z (SH.zeros n) with h | h
            · exact h
            · exact absurd (show m % 128 = 112 by unfold SH.zeros at *; omega) hc
          have HZ := hid hz
          have HM := hid hm
          clear hm hc hz hzz
          go_wp2_with fail
          refine (add_lit 0 0 rfl N (N + 1 + 1) (N + 1) TG fg _ _ RT.out (by rw [HLL.out, ← HM.out]; have := HZ.out; have : SH.zeros n ≤ 127 := by (unfold SH.zeros; omega)
                                                                             omega) N1.out N2.out N3.out N4.out N5.out N6.out).mono ?_
          rintro e w3 ⟨rfl, ht, ho⟩
          have T3 := hid ht
          have B3 := hid (RB.out.trans (ho.below (by have := HN.out; simp; omega) RB.out.size))
          clear ht ho cn
          go_wp2_with fail
          go_roundg (gk - 1)
          case measure => omega
          case rel => exact ⟨z + 1, by have := HZ.out; omega, by have := HZ.out; omega, by rw [List.replicate_succ', ← List.append_assoc]; exact T3.out, B3.out⟩

end Go.Proofs.YtceljjnohjnepaaDoor

namespace Go.Proofs.YtceljjnohjnepaaDoor
open Go.RowKit

/-- A slice of bytes that the call has for itself: what it holds. -/
def OwnsB (w : World) (base : Nat) (v : Value) (l : List UInt8) : Prop :=
  (v = .slice none 0 0 ∧ l = []) ∨
  ∃ g cap cur fz, v = .slice (some ⟨g, 0, none⟩) l.length cap ∧ base ≤ g ∧ w.heap[g]? = some (.cells cur 5 fz) ∧ (∀ j, j < cap → w.frozen? ⟨g, j, none⟩ = false) ∧ l.length ≤ cap ∧ cap ≤ maxLen ∧ cur.size = cap ∧ cur.toList.take l.length = u8s l

set_option maxRecDepth 100000 in
theorem OwnsB.nil (w : World) (base : Nat) : OwnsB w base (.slice none 0 0) [] := .inl ⟨rfl, rfl⟩
set_option maxRecDepth 100000 in
theorem OwnsB.keep {w w' : World} {base : Nat} {v : Value} {l : List UInt8} (h : OwnsB w base v l) (hb : Below w.heap.size w w') : OwnsB w' base v l := by
  rcases h with h | ⟨g, cap, cur, fz, h1, h2, h3, h4, h5, h6, h7, h8⟩
  · exact .inl h
  · have e := keepB hb h3
    exact .inr ⟨g, cap, cur, fz, h1, h2, e, fun j hj => by rw [World.frozen?_of_block (w := w) (by simp [e, h3])]; exact h4 j hj, h5, h6, h7, h8⟩
set_option maxRecDepth 100000 in
theorem OwnsB.block {w : World} {base : Nat} {v : Value} {l : List UInt8} (h : OwnsB w base v l) {g : Nat} (hg : v.ownBlock = some g) : base ≤ g := by
  rcases h with ⟨rfl, _⟩ | ⟨g', cap, cur, fz, rfl, hb, _⟩
  · simp [Value.ownBlock] at hg
  · simp [Value.ownBlock] at hg; omega
set_option maxRecDepth 100000 in
theorem OwnsB.cells {w : World} {base : Nat} {v : Value} {l : List UInt8} (h : OwnsB w base v l) (h0 : 0 < l.length) :
    ∃ g cap, v = .slice (some ⟨g, 0, none⟩) l.length cap ∧ base ≤ g ∧ g < w.heap.size ∧ l.length ≤ cap ∧ cap ≤ maxLen ∧ ∀ j, j < l.length → w.cell? ⟨g, j, none⟩ = some (.int .u8 ((l.getD j 0).toNat : Int)) := by
  rcases h with ⟨_, rfl⟩ | ⟨g, cap, cur, fz, rfl, hb, hc, _, hle, hmx, hsz, hxs⟩
  · simp at h0
  refine ⟨g, cap, rfl, hb, lt_blk hc, hle, hmx, fun j hj => ?_⟩
  rw [cell_at hc]
  have h3 : cur.toList[j]? = (u8s l)[j]? := by
    have h4 : (cur.toList.take l.length)[j]? = cur.toList[j]? := by rw [List.getElem?_take, if_pos hj]
    rw [← h4, hxs]
  rw [← Array.getElem?_toList, h3]
  unfold u8s
  simp [hj]
set_option maxRecDepth 100000 in
/-- A text turned into bytes. -/
theorem OwnsB.conv (w : World) (s : ByteArray) (hs : grownCap w s.size 0 5 ≤ maxLen) : OwnsB (Lib.bytesWorld w 5 s) w.heap.size (.slice (some ⟨w.heap.size, 0, none⟩) s.size (grownCap w s.size 0 5)) s.data.toList := by
  have hg : s.size ≤ grownCap w s.size 0 5 := grownCap_ge w s.size 0 5
  have hcs : (Lib.bytesCells w 5 s).size = grownCap w s.size 0 5 := by
    have : s.data.size = s.size := rfl
    simp [Lib.bytesCells]; omega
  refine .inr ⟨w.heap.size, _, _, _, by rw [show s.data.toList.length = s.size by simp], Nat.le_refl _, Lib.bytesWorld_at_new w 5 s, fun j hj => ?_, by simpa using hg, hs, hcs, ?_⟩
  · simp [World.frozen?, Lib.bytesWorld_at_new]; omega
  · unfold Lib.bytesCells u8s
    rw [Array.toList_append, List.take_append_of_le_length (by simp)]
    rw [List.take_of_length_le (by simp)]
    simp

section
variable {P : Program}
set_option maxRecDepth 100000 in
theorem run_append_B (w : World) (base : Nat) (t tx ty : TypeId) (i : TypeInfo) (ht : P.underlying t = some (.slice 5)) (hi : P.info? 5 = some i) (hz : i.zero = some (.int .u8 0)) (hs1 : i.size = 1) (hb1 : i.bytes = 1)
    (v x : Value) (l m : List UInt8) (h : OwnsB w base v l) (hs : Src P 1 tx x m.length (u8s m) w) (hm : 0 < m.length) (hlen : l.length + m.length ≤ 140737488355328) (hbase : base ≤ w.heap.size) :
    ∃ v' w', (Builtin.append_ #[t, tx] ty #[v, x]).run P w = .ok v' w' ∧ OwnsB w' base v' (l ++ m) ∧ w.grownBy w' v.ownBlock := by
  have grow : ∀ (b : Option Addr) (n cap : Nat), n = l.length → cap < n + m.length → (Builtin.firstCells i.size n (.slice b n cap)).run P w.drew = .ok (u8s l).toArray w.drew → v = .slice b n cap →
      ∃ v' w', (Builtin.append_ #[t, tx] ty #[v, x]).run P w = .ok v' w' ∧ OwnsB w' base v' (l ++ m) ∧ w.grownBy w' v.ownBlock := by
    intro b n cap hn hc hf hv
    have hr := run_append_grow_src (P := P) w t tx ty 5 i (.int .u8 0) ht hi hz b n cap (u8s l) hf x m.length (u8s m) (by rw [hs1]; exact hs) hc (by omega) (by
      rw [hb1, Nat.mul_one]
      have := nextslicecap_le hc
      omega)
    rw [hv]
    refine ⟨_, _, hr, .inr ⟨w.heap.size, grownCap w (n + m.length) cap 5, _, (0, 0), by rw [List.length_append, hn], hbase, heap_alloc_new w.drew _, fun j _ => ?_, ?_, ?_, ?_, ?_⟩, ⟨rfl, rfl, rfl, by simp, fun k hk _ => heap_alloc_old w.drew _ hk⟩⟩
    · exact free_at (heap_alloc_new w.drew _) j
    · have := grownCap_ge w (n + m.length) cap 5; rw [List.length_append]; omega
    · exact grownCap_le_maxLen w (n + m.length) cap 5 (by unfold maxLen; omega)
    · have := grownCap_ge w (n + m.length) cap 5
      simp only [Array.size_append, List.size_toArray, List.length_append, u8s_length, size_zeroCells]
      have e1 : (Value.int IntKind.u8 0).cells.size = 1 := rfl
      rw [e1]; omega
    · rw [Array.toList_append, List.take_append_of_le_length (by simp [u8s_length]), List.take_of_length_le (by simp [u8s_length]), u8s_append]
  rcases h with ⟨rfl, rfl⟩ | ⟨g, cap, cur, fz, rfl, hb, hc, hf, hle, hmx, hsz, hxs⟩
  · exact grow none 0 0 rfl (by omega) (by rw [hs1]; exact run_firstCells_none w.drew 1 0 0 0) rfl
  · by_cases hroom : l.length + m.length ≤ cap
    · have hcell : ∀ j, j < cap → (w.cell? ⟨g, j, none⟩).isSome = true := fun j hj => by rw [cell_at hc]; simp; omega
      have hr := run_append_room_src (P := P) w t tx ty 5 i ht hi g 0 l.length cap x m.length (u8s m) (by rw [hs1]; exact hs) hroom (fun j hj => by rw [hs1, Nat.zero_add, Nat.mul_one]; exact hcell _ (by rw [u8s_length] at hj; omega))
        (fun j hj => by rw [hs1, Nat.zero_add, Nat.mul_one]; exact hf _ (by rw [u8s_length] at hj; omega))
      rw [hs1, Nat.zero_add, Nat.mul_one] at hr
      have hcur : cur = (u8s l ++ (cur.toList.drop l.length).take m.length ++ cur.toList.drop (l.length + m.length)).toArray := by
        apply Array.ext'
        simp only []
        rw [← hxs, ← List.drop_drop, List.append_assoc, List.take_append_drop, List.take_append_drop]
      have hset := setCells_row (u8s m) w g (u8s l) ((cur.toList.drop l.length).take m.length) (cur.toList.drop (l.length + m.length)) 5 fz (by rw [← hcur]; exact hc) (by rw [List.length_take, List.length_drop, u8s_length]; simp [hsz]; omega)
      rw [u8s_length] at hset
      rw [hset] at hr
      have hnew := blk_heap (o := .cells (u8s l ++ u8s m ++ cur.toList.drop (l.length + m.length)).toArray 5 fz) (lt_blk hc)
      refine ⟨_, _, hr, .inr ⟨g, cap, _, fz, by rw [List.length_append], hb, hnew, fun j hj => ?_, by rw [List.length_append]; exact hroom, hmx, ?_, ?_⟩, ⟨rfl, rfl, rfl, by simp [blk], fun k hk hn => blk_other k (by rintro rfl; exact hn rfl)⟩⟩
      · have := hf j hj
        unfold World.frozen? at this ⊢
        simp only [] at this ⊢
        rw [hc] at this
        rw [hnew]
        exact this
      · simp only [List.size_toArray, List.length_append, u8s_length, List.length_drop, Array.length_toList]; omega
      · rw [List.length_append]
        rw [List.take_append_of_le_length (by simp [u8s_length]), List.take_of_length_le (by simp [u8s_length]), u8s_append]
    · refine grow (some ⟨g, 0, none⟩) l.length cap rfl (by omega) ?_ rfl
      have := run_firstCells_some (P := P) w.drew i.size l.length ⟨g, 0, none⟩ l.length cap (u8s l) (by rw [hs1, u8s_length, Nat.mul_one]) (fun j u hu => by
        rw [Addr.add_mid, Nat.zero_add]
        show w.cell? _ = _
        rw [cell_at hc, ← Array.getElem?_toList]
        have hj : j < l.length := by have := (List.getElem?_eq_some_iff.1 hu).1; rwa [u8s_length] at this
        have h4 : (cur.toList.take l.length)[j]? = cur.toList[j]? := by rw [List.getElem?_take, if_pos hj]
        rw [← h4, hxs, hu])
      exact this
set_option maxRecDepth 100000 in
theorem wpList_append_B {ops : Array Oper} {rest : List Oper} {o : Oper} {a : Act} {w : World} {Q : Exit → Act → World → Prop} (hgd : o.guard = none) (s x : Operand) (t tx : TypeId)
    (ho : o.op = .call { callee := .builtin .append, args := #[s, x], argTypes := #[t, tx] }) (base : Nat) (i : TypeInfo) (ht : P.underlying t = some (.slice 5)) (hi : P.info? 5 = some i) (hz : i.zero = some (.int .u8 0)) (hs1 : i.size = 1) (hb1 : i.bytes = 1)
    (v y : Value) (hv : a.eval s = v) (hy : a.eval x = y) (l m : List UInt8) (h : OwnsB w base v l) (hs : Src P 1 tx y m.length (u8s m) w) (hm : 0 < m.length) (hlen : l.length + m.length ≤ 140737488355328) (hbase : base ≤ w.heap.size)
    (k : ∀ v' w', OwnsB w' base v' (l ++ m) → w.grownBy w' v.ownBlock → wpList P ops Q rest (a.put o.dst v') w') : wpList P ops Q (o :: rest) a w := by
  refine wpList_plain hgd fun _ hK => ?_
  obtain ⟨v', w', hr, h2, h3⟩ := run_append_B (P := P) w base t tx o.type i ht hi hz hs1 hb1 v y l m h hs hm hlen hbase
  unfold Oper.wp execOp
  simp only [ho, resolve, invoke, builtin, Sem.run_bind, Sem.run_pure, Result.andThen_ok, List.map_toArray, List.map_cons, List.map_nil, hv, hy, hr]
  exact hK _ _ (k v' w' h2 h3)
end

end Go.Proofs.YtceljjnohjnepaaDoor

namespace Go.Proofs.YtceljjnohjnepaaDoor
open Go.RowKit

variable {P : Program}
set_option maxRecDepth 100000 in
theorem zero_cells8 : (Builtin.zeroCells (Value.int IntKind.u8 0).cells 8).toList = u8s [0, 0, 0, 0, 0, 0, 0, 0] := by kernel_rfl
set_option maxRecDepth 100000 in
theorem run_append_room8 (w : World) (t tx ty : TypeId) (i : TypeInfo) (ht : P.underlying t = some (.slice 5)) (hk : P.underlying tx = some (.int .i64)) (hi : P.info? 5 = some i) (hz : i.zero = some (.int .u8 0)) (hs1 : i.size = 1) (hb1 : i.bytes = 1)
    (b sLen sCap : Nat) (hroom : sLen + 8 ≤ sCap) (hc : ∀ j, j < 8 → (w.cell? ⟨b, sLen + j, none⟩).isSome = true) (hf : ∀ j, j < 8 → w.frozen? ⟨b, sLen + j, none⟩ = false) :
    (Builtin.append_ #[t, tx] ty #[.slice (some ⟨b, 0, none⟩) sLen sCap, .int .i64 8]).run P w = .ok (.slice (some ⟨b, 0, none⟩) (sLen + 8) sCap) (w.setCells b sLen (u8s [0, 0, 0, 0, 0, 0, 0, 0])) := by
  have hst := run_storeCells_cells (P := P) b sLen (u8s [0, 0, 0, 0, 0, 0, 0, 0]) 0 w (by simpa [u8s_length] using hc) (by simpa [u8s_length] using hf) (by intro v hv; simp [u8s] at hv; subst hv; rfl)
  simp only [Nat.add_zero] at hst
  have hw8 : IntKind.i64.wrap 8 = 8 := by decide
  simp [Builtin.append_, run_underlying ht, run_underlying hk, sizeOf, typeInfo, zeroValue, hi, hz, hs1, hb1, asInt, asIntOf, hw8, hroom, Addr.add_lit, zero_cells8, hst]

set_option maxRecDepth 100000 in
theorem run_append_grow8 (w : World) (t tx ty : TypeId) (i : TypeInfo) (ht : P.underlying t = some (.slice 5)) (hk : P.underlying tx = some (.int .i64)) (hi : P.info? 5 = some i) (hz : i.zero = some (.int .u8 0)) (hs1 : i.size = 1) (hb1 : i.bytes = 1)
    (base : Option Addr) (sLen sCap : Nat) (olds : List Value) (hold : (Builtin.firstCells 1 sLen (.slice base sLen sCap)).run P w.drew = .ok olds.toArray w.drew) (hg : sCap < sLen + 8) (h63 : sLen + 8 ≤ 140737488355328) :
    (Builtin.append_ #[t, tx] ty #[.slice base sLen sCap, .int .i64 8]).run P w =
      .ok (.slice (some ⟨w.heap.size, 0, none⟩) (sLen + 8) (grownCap w (sLen + 8) sCap 5))
        (w.drew.alloc (.cells ((olds ++ u8s [0, 0, 0, 0, 0, 0, 0, 0]).toArray ++ Builtin.zeroCells (Value.int IntKind.u8 0).cells (grownCap w (sLen + 8) sCap 5 - (sLen + 8))) 5)) := by
  have hn : ¬ (sLen + 8 ≤ sCap) := by omega
  have hw8 : IntKind.i64.wrap 8 = 8 := by decide
  have h63' : ¬ (9223372036854775807 < ((sLen : Int) + 8)) := by omega
  have h63'' : ¬ (9223372036854775807 < ((sLen : Int) + max 8 0)) := by omega
  have hfit : Builtin.nextslicecap (sLen + 8) sCap ≤ 2 * (sLen + 8) := nextslicecap_le hg
  have h48' : ¬ (281474976710656 < Builtin.nextslicecap (sLen + 8) sCap) := by omega
  simp [Builtin.append_, run_underlying ht, run_underlying hk, sizeOf, typeInfo, zeroValue, hi, hz, hs1, hb1, asInt, asIntOf, hw8, hn, h63'', h48', Question.forced, hold, newRow, grownCap]
  congr 2
  apply Array.ext'
  simp [List.append_assoc, zero_cells8]

set_option maxRecDepth 100000 in
theorem run_append_B8 (w : World) (base : Nat) (t tx ty : TypeId) (i : TypeInfo) (ht : P.underlying t = some (.slice 5)) (hk : P.underlying tx = some (.int .i64)) (hi : P.info? 5 = some i) (hz : i.zero = some (.int .u8 0)) (hs1 : i.size = 1) (hb1 : i.bytes = 1)
    (v : Value) (l : List UInt8) (h : OwnsB w base v l) (hlen : l.length + 8 ≤ 140737488355328) (hbase : base ≤ w.heap.size) :
    ∃ v' w', (Builtin.append_ #[t, tx] ty #[v, .int .i64 8]).run P w = .ok v' w' ∧ OwnsB w' base v' (l ++ [0, 0, 0, 0, 0, 0, 0, 0]) ∧ w.grownBy w' v.ownBlock := by
  have grow : ∀ (b : Option Addr) (n cap : Nat), n = l.length → cap < n + 8 → (Builtin.firstCells 1 n (.slice b n cap)).run P w.drew = .ok (u8s l).toArray w.drew → v = .slice b n cap →
      ∃ v' w', (Builtin.append_ #[t, tx] ty #[v, .int .i64 8]).run P w = .ok v' w' ∧ OwnsB w' base v' (l ++ [0, 0, 0, 0, 0, 0, 0, 0]) ∧ w.grownBy w' v.ownBlock := by
    intro b n cap hn hc hf hv
    have hr := run_append_grow8 (P := P) w t tx ty i ht hk hi hz hs1 hb1 b n cap (u8s l) hf hc (by omega)
    rw [hv]
    have hge := grownCap_ge w (n + 8) cap 5
    refine ⟨_, _, hr, .inr ⟨w.heap.size, grownCap w (n + 8) cap 5, _, (0, 0), by rw [List.length_append, hn]; rfl, hbase, heap_alloc_new w.drew _, fun j _ => free_at (heap_alloc_new w.drew _) j, ?_, ?_, ?_, ?_⟩, ⟨rfl, rfl, rfl, by simp, fun k hk _ => heap_alloc_old w.drew _ hk⟩⟩
    · rw [List.length_append, ← hn]; exact hge
    · exact grownCap_le_maxLen w (n + 8) cap 5 (by unfold maxLen; omega)
    · simp only [Array.size_append, List.size_toArray, List.length_append, u8s_length, size_zeroCells]
      have e1 : (Value.int IntKind.u8 0).cells.size = 1 := rfl
      rw [e1, ← hn]
      simp only [List.length_cons, List.length_nil]; omega
    · rw [Array.toList_append, List.take_append_of_le_length (by simp [u8s_length]), List.take_of_length_le (by simp [u8s_length]), u8s_append]
  rcases h with ⟨rfl, rfl⟩ | ⟨g, cap, cur, fz, rfl, hb, hc, hf, hle, hmx, hsz, hxs⟩
  · exact grow none 0 0 rfl (by omega) (run_firstCells_none w.drew 1 0 0 0) rfl
  · by_cases hroom : l.length + 8 ≤ cap
    · have hcell : ∀ j, j < cap → (w.cell? ⟨g, j, none⟩).isSome = true := fun j hj => by rw [cell_at hc]; simp; omega
      have hr := run_append_room8 (P := P) w t tx ty i ht hk hi hz hs1 hb1 g l.length cap hroom (fun j hj => hcell _ (by omega)) (fun j hj => hf _ (by omega))
      have hcur : cur = (u8s l ++ (cur.toList.drop l.length).take 8 ++ cur.toList.drop (l.length + 8)).toArray := by
        apply Array.ext'
        simp only []
        rw [← hxs, ← List.drop_drop, List.append_assoc, List.take_append_drop, List.take_append_drop]
      have hset := setCells_row (u8s [0, 0, 0, 0, 0, 0, 0, 0]) w g (u8s l) ((cur.toList.drop l.length).take 8) (cur.toList.drop (l.length + 8)) 5 fz (by rw [← hcur]; exact hc) (by rw [List.length_take, List.length_drop, u8s_length]; simp [hsz]; omega)
      rw [u8s_length] at hset
      rw [hset] at hr
      have hnew := blk_heap (o := .cells (u8s l ++ u8s [0, 0, 0, 0, 0, 0, 0, 0] ++ cur.toList.drop (l.length + 8)).toArray 5 fz) (lt_blk hc)
      refine ⟨_, _, hr, .inr ⟨g, cap, _, fz, by rw [List.length_append]; rfl, hb, hnew, fun j hj => ?_, by rw [List.length_append]; exact hroom, hmx, ?_, ?_⟩, ⟨rfl, rfl, rfl, by simp [blk], fun k hk hn => blk_other k (by rintro rfl; exact hn rfl)⟩⟩
      · have := hf j hj
        unfold World.frozen? at this ⊢
        simp only [] at this ⊢
        rw [hc] at this
        rw [hnew]
        exact this
      · simp only [List.size_toArray, List.length_append, u8s_length, List.length_drop, Array.length_toList, List.length_cons, List.length_nil]; omega
      · rw [List.length_append, List.take_append_of_le_length (by simp [u8s_length]), List.take_of_length_le (by simp [u8s_length]), u8s_append]
    · refine grow (some ⟨g, 0, none⟩) l.length cap rfl (by omega) ?_ rfl
      exact run_firstCells_some (P := P) w.drew 1 l.length ⟨g, 0, none⟩ l.length cap (u8s l) (by rw [u8s_length, Nat.mul_one]) (fun j u hu => by
        rw [Addr.add_mid, Nat.zero_add]
        show w.cell? _ = _
        rw [cell_at hc, ← Array.getElem?_toList]
        have hj : j < l.length := by have := (List.getElem?_eq_some_iff.1 hu).1; rwa [u8s_length] at this
        have h4 : (cur.toList.take l.length)[j]? = cur.toList[j]? := by rw [List.getElem?_take, if_pos hj]
        rw [← h4, hxs, hu])
set_option maxRecDepth 100000 in
theorem wpList_append_B8 {ops : Array Oper} {rest : List Oper} {o : Oper} {a : Act} {w : World} {Q : Exit → Act → World → Prop} (hgd : o.guard = none) (s : Operand) (t tx : TypeId)
    (ho : o.op = .call { callee := .builtin .append, args := #[s, .const (.int .i64 8)], argTypes := #[t, tx] }) (base : Nat) (i : TypeInfo) (ht : P.underlying t = some (.slice 5)) (hk : P.underlying tx = some (.int .i64)) (hi : P.info? 5 = some i) (hz : i.zero = some (.int .u8 0)) (hs1 : i.size = 1) (hb1 : i.bytes = 1)
    (v : Value) (hv : a.eval s = v) (l : List UInt8) (h : OwnsB w base v l) (hlen : l.length + 8 ≤ 140737488355328) (hbase : base ≤ w.heap.size)
    (k : ∀ v' w', OwnsB w' base v' (l ++ [0, 0, 0, 0, 0, 0, 0, 0]) → w.grownBy w' v.ownBlock → wpList P ops Q rest (a.put o.dst v') w') : wpList P ops Q (o :: rest) a w := by
  refine wpList_plain hgd fun _ hK => ?_
  obtain ⟨v', w', hr, h2, h3⟩ := run_append_B8 (P := P) w base t tx o.type i ht hk hi hz hs1 hb1 v l h hlen hbase
  unfold Oper.wp execOp
  have he : a.eval (.const (.int .i64 8)) = .int .i64 8 := rfl
  simp only [ho, resolve, invoke, builtin, Sem.run_bind, Sem.run_pure, Result.andThen_ok, List.map_toArray, List.map_cons, List.map_nil, hv, he, hr]
  exact hK _ _ (k v' w' h2 h3)

end Go.Proofs.YtceljjnohjnepaaDoor

namespace Go.Proofs.YtceljjnohjnepaaDoor
open Go.RowKit

set_option maxRecDepth 100000 in
@[go_sem] theorem make64 (w : World) : (Instr.makeSlice 27 (.int .i64 64) (.int .i64 64)).run Tryd.prog w = .ok (.slice (some ⟨w.heap.size, 0, none⟩) 64 64) (w.alloc (.cells (brow (List.replicate 64 0)) 5)) := by kernel_rfl
set_option maxRecDepth 100000 in
theorem store8 (x : SH.St) (w : World) : (storeCells ⟨w.heap.size, 0, none⟩ (stv x).toList).run Tryd.prog (w.alloc (.cells #[.int .u64 0, .int .u64 0, .int .u64 0, .int .u64 0, .int .u64 0, .int .u64 0, .int .u64 0, .int .u64 0] 62)) = .ok () (w.alloc (.cells (stv x) 62)) :=
  store_cells_new w 62 _ (stv x) (by rw [info_A8]; rfl) rfl (wrow_one _)
set_option maxRecDepth 100000 in
theorem put_get8 {A B : List UInt8} (h : A.length = B.length) {i : Nat} (hi : i < A.length) : (A.take i ++ B.drop i).getD i 0 = B.getD i 0 := by
  have : (A.take i).length = i := by rw [List.length_take]; omega
  simp [List.getElem?_append, this, List.getElem?_drop]
set_option maxRecDepth 100000 in
theorem put_step8 {A B : List UInt8} (h : A.length = B.length) {i : Nat} (hi : i < A.length) : (A.take i ++ B.drop i).set i (A.getD i 0) = A.take (i + 1) ++ B.drop (i + 1) := by
  have h1 : (A.take i).length = i := by rw [List.length_take]; omega
  rw [List.set_append_right _ _ (by omega), h1, Nat.sub_self, List.drop_eq_getElem_cons (by omega), List.set_cons_zero, List.take_succ_eq_append_getElem hi, List.append_assoc]
  simp [hi]

end Go.Proofs.YtceljjnohjnepaaDoor

namespace Go.Proofs.YtceljjnohjnepaaDoor
open Go.RowKit

set_option maxRecDepth 100000 in
theorem sha_e : SH.sha (cat []) = [207, 131, 225, 53, 126, 239, 184, 189, 241, 84, 40, 80, 214, 109, 128, 7, 214, 32, 228, 5, 11, 87, 21, 220, 131, 244, 169, 33, 211, 108, 233, 206, 71, 208, 209, 60, 93, 133, 242, 176, 255, 131, 24, 210, 135, 126, 236, 47, 99, 185, 49, 189, 71, 65, 122, 129, 165, 56, 50, 122, 249, 39, 218, 62] := by decide +kernel
set_option maxRecDepth 100000 in
theorem sha_a : SH.sha (cat [⟨#[97]⟩, ⟨#[98, 99]⟩]) = [221, 175, 53, 161, 147, 97, 122, 186, 204, 65, 115, 73, 174, 32, 65, 49, 18, 230, 250, 78, 137, 169, 126, 162, 10, 158, 238, 230, 75, 85, 211, 154, 33, 146, 153, 42, 39, 79, 193, 168, 54, 186, 60, 35, 163, 254, 235, 189, 69, 77, 68, 35, 100, 60, 232, 14, 42, 154, 201, 79, 165, 76, 164, 159] := by decide +kernel
/-- The table of the rounds stands where it was laid. -/
def Tab (w : World) : Prop := ∃ TG fg, w.heap[0]? = some (.cells (wrow SH.K) TG fg)
set_option maxRecDepth 100000 in
theorem Tab.keep {w w' : World} (h : Tab w) (hb : Below w.heap.size w w') : Tab w' := by
  obtain ⟨T, f, h⟩ := h; exact ⟨T, f, keepB hb h⟩
set_option maxRecDepth 100000 in
theorem Tab.alloc {w : World} (h : Tab w) (o : Obj) : Tab (w.alloc o) := h.keep (below_new o)

end Go.Proofs.YtceljjnohjnepaaDoor

namespace Go.Proofs.YtceljjnohjnepaaDoor
namespace DG
variable {B : Nat}

set_option maxRecDepth 100000 in
theorem oless_at {a b : List Nat} (ha : All B a) (_hb : All B b) (hl : a.length = b.length) {k : Nat} (hk : k < a.length) (hd : a.drop (k + 1) = b.drop (k + 1)) (hlt : a.getD k 0 < b.getD k 0) : val B a < val B b := by
  rw [val_split a k hk, val_split b k (by omega), hd]
  have h1 := val_take_lt ha (k := k) (by omega)
  have h2 : B ^ k * (a.getD k 0 + B * val B (b.drop (k + 1)) + 1) ≤ B ^ k * (b.getD k 0 + B * val B (b.drop (k + 1))) := Nat.mul_le_mul_left _ (by omega)
  rw [Nat.mul_add, Nat.mul_one] at h2
  omega
set_option maxRecDepth 100000 in
theorem oless_iff {a b : List Nat} (ha : All B a) (hb : All B b) (hl : a.length = b.length) {k : Nat} (hk : k < a.length) (hd : a.drop (k + 1) = b.drop (k + 1)) (hne : a.getD k 0 ≠ b.getD k 0) :
    decide (a.getD k 0 < b.getD k 0) = decide (val B a < val B b) := by
  rcases Nat.lt_or_gt_of_ne hne with h | h
  · rw [decide_eq_true h, decide_eq_true (oless_at ha hb hl hk hd h)]
  · have := oless_at hb ha hl.symm (by omega) hd.symm h
    rw [decide_eq_false (by omega), decide_eq_false (by omega)]
set_option maxRecDepth 100000 in
theorem odrop_step {a b : List Nat} {k : Nat} (hk : k < a.length) (hl : a.length = b.length) (hd : a.drop (k + 1) = b.drop (k + 1)) (he : a.getD k 0 = b.getD k 0) : a.drop k = b.drop k := by
  rw [List.drop_eq_getElem_cons hk, List.drop_eq_getElem_cons (by omega : k < b.length), hd]
  rw [getD_at hk, getD_at (by omega)] at he
  rw [he]

end DG
end Go.Proofs.YtceljjnohjnepaaDoor

namespace Go.Proofs.YtceljjnohjnepaaDoor
open Go.RowKit DG

end Go.Proofs.YtceljjnohjnepaaDoor

namespace Go.Proofs.YtceljjnohjnepaaDoor
open Go.RowKit DG

set_option maxRecDepth 100000 in
theorem info_RNum : (Tryd.prog.info? 29).map (·.size) = some 32 := by kernel_rfl
set_option maxRecDepth 100000 in
theorem row_range {w : World} {b : Nat} {k : IntKind} {l : List Nat} {T : TypeId} {fz : Nat × Nat} (h : w.heap[b]? = some (.cells (ints k l) T fz)) : w.rangeAt b 0 (l.map fun (x : Nat) => Value.int k (x : Int)) := fun j v hv => by
  rw [Nat.zero_add, cell_at h]
  simpa [ints] using hv
set_option maxRecDepth 100000 in
theorem load_num {w : World} {b : Nat} {l : List Nat} {T : TypeId} {fz : Nat × Nat} (hl : l.length = 32) (h : w.heap[b]? = some (.cells (ints .u8 l) T fz)) :
    (Instr.loadAt 29 (.pointer (some ⟨b, 0, none⟩))).run Tryd.prog w = .ok (.agg (ints .u8 l)) w :=
  run_loadAt_mid w b 0 29 _ _ (row_range h) Tryd.underlying29 rfl (by rw [info_RNum]; simp [hl])
set_option maxRecDepth 100000 in
theorem setCells_blk (vs : List Value) : ∀ (w : World) (b : Nat) (pre old post : List Value) (T : TypeId) (fz : Nat × Nat), w.heap[b]? = some (.cells (pre ++ old ++ post).toArray T fz) → old.length = vs.length →
    w.setCells b pre.length vs = blk w b (.cells (pre ++ vs ++ post).toArray T fz) := by
  induction vs with
  | nil =>
    intro w b pre old post T fz h hl
    have : old = [] := List.length_eq_zero_iff.1 hl
    subst this
    exact (blk_self h).symm
  | cons v vs ih =>
    intro w b pre old post T fz h hl
    match old, hl with
    | o :: old, hl =>
      have h1 := at_setCell h pre.length v
      have e : ((pre ++ (o :: old) ++ post).toArray.setIfInBounds pre.length v) = ((pre ++ [v]) ++ old ++ post).toArray := by
        rw [List.setIfInBounds_toArray]; simp
      rw [e] at h1
      have h2 := ih (w.setCell ⟨b, pre.length, none⟩ v) b (pre ++ [v]) old post T fz h1 (by simpa using hl)
      rw [List.length_append, List.length_singleton] at h2
      rw [World.setCells, h2, setCell_blk h, blk_blk]
      simp
set_option maxRecDepth 100000 in
theorem there_row {w : World} {b n : Nat} {c : Array Value} {T : TypeId} (h : w.heap[b]? = some (.cells c T (0, 0))) (hn : n ≤ c.size) : w.there b 0 n := fun j hj => by
  rw [Nat.zero_add, cell_at h, free_at h]
  simp; omega
set_option maxRecDepth 100000 in
theorem store_num {w : World} {b : Nat} {l : List Nat} {c : Array Value} {T : TypeId} (hl : l.length = 32) (h : w.heap[b]? = some (.cells c T (0, 0))) (hc : c.size = 32) :
    (Instr.storeAt 29 (.pointer (some ⟨b, 0, none⟩)) (.agg (ints .u8 l))).run Tryd.prog w = .ok () (blk w b (.cells (ints .u8 l) T (0, 0))) := by
  have h1 := run_storeAt_mid (P := Tryd.prog) w b 0 29 (ints .u8 l) (there_row h (by rw [ints_size]; omega)) (by rw [info_RNum, ints_size, hl]) (by
    rw [Array.all_eq_true_iff_forall_mem]
    intro v hv
    simp only [ints, List.mem_toArray, List.mem_map] at hv
    obtain ⟨x, _, rfl⟩ := hv
    rfl)
  rw [h1]
  have h2 := setCells_blk (ints .u8 l).toList w b [] c.toList [] T (0, 0) (by simpa using h) (by simp [ints_size, hl, hc])
  simp only [List.length_nil, List.nil_append, List.append_nil] at h2
  rw [h2]

set_option maxRecDepth 100000 in
theorem ints_one (l : List Nat) : (ints .u8 l).all (·.oneCell') = true := by
  rw [Array.all_eq_true_iff_forall_mem]
  intro v hv
  simp only [ints, List.mem_toArray, List.mem_map] at hv
  obtain ⟨x, _, rfl⟩ := hv
  rfl
section
variable {ops : Array Oper} {rest : List Oper} {op : Oper} {a : Act} {w : World} {Q : Exit → Act → World → Prop}
set_option maxRecDepth 100000 in
theorem wp_load_num (hgd : op.guard = none) (x : Operand) (ho : op.op = .load 29 x) {b : Nat} (hx : a.eval x = .pointer (some ⟨b, 0, none⟩)) {l : List Nat} {T : TypeId} {fz : Nat × Nat}
    (hl : l.length = 32) (h : w.heap[b]? = some (.cells (ints .u8 l) T fz)) (k : wpList Tryd.prog ops Q rest (a.put op.dst (.agg (ints .u8 l))) w) : wpList Tryd.prog ops Q (op :: rest) a w :=
  wpList_load_mid hgd 29 x ho b 0 hx _ _ (row_range h) Tryd.underlying29 rfl (by rw [info_RNum]; simp [hl]) k
set_option maxRecDepth 100000 in
theorem wp_store_num (hgd : op.guard = none) (x y : Operand) (ho : op.op = .store 29 x y) {b : Nat} (hx : a.eval x = .pointer (some ⟨b, 0, none⟩)) {l : List Nat} {c : Array Value} {T : TypeId} (hy : a.eval y = .agg (ints .u8 l))
    (hl : l.length = 32) (h : w.heap[b]? = some (.cells c T (0, 0))) (hc : c.size = 32) (k : wpList Tryd.prog ops Q rest (a.put op.dst undef) (blk w b (.cells (ints .u8 l) T (0, 0)))) : wpList Tryd.prog ops Q (op :: rest) a w := by
  refine wpList_store_mid hgd 29 x y ho b 0 (ints .u8 l) hx hy (there_row h (by rw [ints_size]; omega)) (by rw [info_RNum, ints_size, hl]) (ints_one l) ?_
  have h2 := setCells_blk (ints .u8 l).toList w b [] c.toList [] T (0, 0) (by simpa using h) (by simp [ints_size, hl, hc])
  simp only [List.length_nil, List.nil_append, List.append_nil] at h2
  rw [h2]
  exact k
end

end Go.Proofs.YtceljjnohjnepaaDoor

namespace Go.Proofs.YtceljjnohjnepaaDoor
open Go Go.RowKit
variable {P : Program} {Q : Exit → Act → World → Prop} {a : Act} {w : World}
set_option maxRecDepth 100000 in
theorem wp_region_two {id : Nat} {o0 o1 : Oper} {l : List Oper} (hm : P.follows .mixedOrders = true)
    (hr : Region.ready .any (o0 :: o1 :: l).toArray (Array.replicate (l.length + 2) false) = [0, 1])
    (hs1 : Region.seqB .any (o0 :: o1 :: l).toArray (l.length + 1) 1 ((Array.replicate (l.length + 2) false).setIfInBounds 0 true) = true)
    (hr2 : Region.ready .any (o0 :: o1 :: l).toArray ((Array.replicate (l.length + 2) false).setIfInBounds 1 true) = [0])
    (hs2 : Region.seqB .any (o0 :: o1 :: l).toArray l.length 2 (((Array.replicate (l.length + 2) false).setIfInBounds 1 true).setIfInBounds 0 true) = true)
    (h1 : wpList P (o0 :: o1 :: l).toArray Q (o0 :: o1 :: l) a w.drew) (h2 : wpList P (o0 :: o1 :: l).toArray Q (o1 :: o0 :: l) a w.drew) : (Code.region id (o0 :: o1 :: l).toArray true).wp P Q a w := by
  refine wp_region_any hm ?_
  show wpAny P .any (o0 :: o1 :: l).toArray Q (l.length + 1 + 1) (Array.replicate (l.length + 2) false) a w.drew
  refine ⟨fun h0 => (by rw [hr] at h0; cases h0), fun i hi => ?_⟩
  rw [hr] at hi
  have hi' : i = 0 ∨ i = 1 := by simpa using hi
  rcases hi' with rfl | rfl
  · have hw : wpOp P (o0 :: o1 :: l).toArray Q 0 (wpList P (o0 :: o1 :: l).toArray Q (o1 :: l)) a w.drew := by unfold wpOp; exact h1
    exact wpOp_mono (fun a' w' h' => wpAny_of_seq (o1 :: l) 1 _ a' w' (fun j => by simp [Nat.add_comm 1 j]) hs1 h') hw
  · have hw : wpOp P (o0 :: o1 :: l).toArray Q 1 (wpList P (o0 :: o1 :: l).toArray Q (o0 :: l)) a w.drew := by unfold wpOp; exact h2
    refine wpOp_mono (fun a' w' h' => ?_) hw
    refine ⟨fun h0 => (by rw [hr2] at h0; cases h0), fun i hi => ?_⟩
    rw [hr2] at hi
    have hi' : i = 0 := by simpa using hi
    subst hi'
    have hw2 : wpOp P (o0 :: o1 :: l).toArray Q 0 (wpList P (o0 :: o1 :: l).toArray Q l) a' w' := by unfold wpOp; exact h'
    exact wpOp_mono (fun a' w' h' => wpAny_of_seq l 2 _ a' w' (fun j => by simp [Nat.add_comm 2 j]) hs2 h') hw2
end Go.Proofs.YtceljjnohjnepaaDoor

namespace Go.Proofs.YtceljjnohjnepaaDoor
open Go.RowKit DG

section
variable {ops : Array Oper} {rest : List Oper} {op : Oper} {a : Act} {w : World} {Q : Exit → Act → World → Prop}
set_option maxRecDepth 100000 in
theorem owp_build (hgd : op.guard = none) (t : TypeId) (parts : Array (Nat × Operand)) (ho : op.op = .build t parts) (cells : Array Value) (h : Tryd.prog.built t (parts.map fun (i, x) => (i, a.eval x)).toList = some cells)
    (k : wpList Tryd.prog ops Q rest (a.put op.dst (.agg cells)) w) : wpList Tryd.prog ops Q (op :: rest) a w :=
  wpList_plain hgd fun _ hK => by
    unfold Oper.wp execOp
    simp only [ho, Sem.run_bind, Sem.run_pure, Result.andThen_ok, run_build w t _ cells h]
    exact hK _ _ k
end

set_option maxRecDepth 100000 in
theorem ordL_row : digs 256 ordL 32 = [237, 211, 245, 92, 26, 99, 18, 88, 214, 156, 247, 162, 222, 249, 222, 20, 0, 0, 0, 0, 0, 0, 0, 0, 0, 0, 0, 0, 0, 0, 0, 16] := by decide +kernel

set_option maxRecDepth 100000 in
theorem ref_Order (W : World) : Calls Tryd.prog 7 #[] W fun e w' => e = .returned (.agg (ints .u8 (digs 256 ordL 32))) ∧ Below W.heap.size W w' := by
  rw [ordL_row]
  go_enter Tryd.func7, Tryd.ntmps7
  go_upto_region 1 with (fail)
  refine wp_region_list ?_
  refine owp_build (by rfl) _ _ (by rfl) (ints .u8 [237, 211, 245, 92, 26, 99, 18, 88, 214, 156, 247, 162, 222, 249, 222, 20, 0, 0, 0, 0, 0, 0, 0, 0, 0, 0, 0, 0, 0, 0, 0, 16]) (by kernel_rfl) ?_
  refine wp_store_num (by rfl) _ _ (by rfl) (by rfl) (by rfl) (by rfl) (alloc_at _ _) (by rfl) ?_
  have RN := hid (blk_heap (w := W.alloc (.cells (ints .u8 (List.replicate 32 0)) 29)) (b := W.heap.size) (o := .cells (ints .u8 [237, 211, 245, 92, 26, 99, 18, 88, 214, 156, 247, 162, 222, 249, 222, 20, 0, 0, 0, 0, 0, 0, 0, 0, 0, 0, 0, 0, 0, 0, 0, 16]) 29 (0, 0)) (lt_blk (alloc_at _ _)))
  go_wp2_with fail
  refine bodyPost_ret (v := .agg (ints .u8 [237, 211, 245, 92, 26, 99, 18, 88, 214, 156, 247, 162, 222, 249, 222, 20, 0, 0, 0, 0, 0, 0, 0, 0, 0, 0, 0, 0, 0, 0, 0, 16])) (results_cell_row Tryd.results7 _ _ (W.heap.size) _ _ _ _ (by rfl) RN.out Tryd.underlying29 rfl (by rw [info_RNum]; rfl)) rfl ⟨rfl, below_blk' (below_new _) (Nat.le_refl _) _⟩

set_option maxRecDepth 100000 in
/-- One digit of doubling. -/
theorem dbl_step {B : Nat} {c l : List Nat} {k cr cr' d bit : Nat} (hk : k < c.length) (hl : l.length = c.length) (hd : c.drop k = l.drop k)
    (h : val B c + cr * B ^ k = val B l + val B (l.take k) + bit) (hx : d + cr' * B = 2 * c.getD k 0 + cr) :
    val B (c.set k d) + cr' * B ^ (k + 1) = val B l + val B (l.take (k + 1)) + bit := by
  have h1 := val_set (B := B) hk d
  have hkl : k < l.length := by omega
  have he : c.getD k 0 = l.getD k 0 := by
    have := congrArg (fun (m : List Nat) => m.getD 0 0) hd
    simpa [List.getD_eq_getElem?_getD] using this
  have h2 : val B (l.take (k + 1)) = val B (l.take k) + l.getD k 0 * B ^ k := by
    rw [List.take_succ_eq_append_getElem hkl, val_append, List.length_take, Nat.min_eq_left (by omega), getD_at hkl]
    simp [val, Nat.mul_comm]
  have h3 : (d + cr' * B) * B ^ k = (2 * c.getD k 0 + cr) * B ^ k := by rw [hx]
  rw [Nat.add_mul, Nat.add_mul, Nat.mul_assoc, ← Nat.pow_succ', Nat.succ_eq_add_one, Nat.two_mul, Nat.add_mul] at h3
  rw [h2, ← he]
  omega
set_option maxRecDepth 100000 in
theorem dbl_end {c : List Nat} {cr m : Nat} (hc : All 256 c) (hn : c.length = 32) (hm : m < ordL) (b : Nat) (hb : b ≤ 1) (h : val 256 c + cr * 256 ^ 32 = m + m + b) : c = digs 256 (2 * m + b) 32 := by
  have hr : cr = 0 := by
    rcases Nat.eq_zero_or_pos cr with h0 | h0
    · exact h0
    · have h1 : 1 * 256 ^ 32 ≤ cr * 256 ^ 32 := Nat.mul_le_mul_right _ h0
      have h2 : 2 * ordL < 256 ^ 32 := by decide
      omega
  subst hr
  have hv : val 256 c = 2 * m + b := by omega
  rw [← hv, ← hn, digs_val hc]

set_option maxRecDepth 100000 in
theorem oand1_shr8 (x r : Nat) (hx : x < 256) : bits .and .u8 ((x : Int) / (2 : Int) ^ r) 1 = ((x / 2 ^ r % 2 : Nat) : Int) := by
  have e : ((x : Int) / (2 : Int) ^ r) = ((x / 2 ^ r : Nat) : Int) := by rw [Int.natCast_ediv, Int.natCast_pow]; rfl
  have hle : x / 2 ^ r ≤ x := Nat.div_le_self _ _
  rw [e, show (1 : Int) = ((1 : Nat) : Int) from rfl, u8_and_nat _ _ (by omega) (by decide), nat_mask1]
set_option maxRecDepth 100000 in
theorem obit_of_bytes (l : List UInt8) (m : Nat) (h : m < 8 * l.length) : bytesNat l / 2 ^ m % 2 = (l.getD (m / 8) 0).toNat / 2 ^ (m % 8) % 2 := by
  have := bit_digit (w := 8) (l := l.map (·.toNat)) (bytes_all l) m (by decide) (by simpa using h)
  unfold bytesNat
  rw [show (256 : Nat) = 2 ^ 8 from rfl, this]
  have hj : m / 8 < l.length := by omega
  simp [hj]
set_option maxRecDepth 100000 in
theorem dbl_byte (x c : Nat) (_hx : x < 256) (hc : c ≤ 1) : bits .or .u8 ((x : Int) * 2 % 256) (c : Int) = (((2 * x + c) % 256 : Nat) : Int) := by
  rw [show ((x : Int) * 2 % 256) = ((2 * x % 256 : Nat) : Int) by omega, u8_or_nat _ _ (by omega) (by omega), nat_join 1 _ _ (by omega) (by omega)]
  omega

set_option maxRecDepth 100000 in
theorem drop_set_succ {c l : List Nat} {k d : Nat} (h : c.drop k = l.drop k) : (c.set k d).drop (k + 1) = l.drop (k + 1) := by
  have h2 : c.drop (k + 1) = l.drop (k + 1) := by rw [← List.drop_drop, ← List.drop_drop, h]
  rw [List.drop_set, if_pos (by omega), h2]
set_option maxRecDepth 100000 in
theorem range_below {w w' : World} {b : Nat} {cs : List Value} (h : w.rangeAt b 0 cs) (hb : b < w.heap.size) (hB : Below w.heap.size w w') : w'.rangeAt b 0 cs := fun j v hv => (hB.cell (p := ⟨b, 0 + j, none⟩) hb).trans (h j v hv)

set_option maxRecDepth 100000 in
theorem keepS {W1 w1 w2 : World} {b : Nat} {cs : List Value} (h : w1.rangeAt b 0 cs) (hB : Below W1.heap.size W1 w1) (hlt : b < W1.heap.size) (hb : Below w1.heap.size w1 w2) : w2.rangeAt b 0 cs ∧ Below W1.heap.size W1 w2 :=
  ⟨range_below h (Nat.lt_of_lt_of_le hlt hB.size) hb, below_to hB hb⟩

end Go.Proofs.YtceljjnohjnepaaDoor

namespace Go.Proofs.YtceljjnohjnepaaDoor
open Go.RowKit DG

def eqB (a b : Nat) : Bool := decide (a = b)
def ocanB (s : ByteArray) : Bool := decide (s.size = 32 ∧ bytesNat s.data.toList < ordL)
set_option maxRecDepth 100000 in
theorem toList_data (s : ByteArray) : s.toList = s.data.toList := ByteArray.toList_eq s
set_option maxRecDepth 100000 in
theorem quad_list (n : Nat) (_h : n < 115792089237316195423570985008687907853269984665640564039457584007913129639936) :
    ∃ x0 x1 x2 x3 : Nat, quad n = #[.int .u64 (x0 : Int), .int .u64 (x1 : Int), .int .u64 (x2 : Int), .int .u64 (x3 : Int)] ∧ digs (2 ^ 64) n 4 = [x0, x1, x2, x3] := ⟨_, _, _, _, oquad_ints n, rfl⟩

set_option maxRecDepth 100000 in
theorem digs_eq {a b : Nat} (ha : a < 115792089237316195423570985008687907853269984665640564039457584007913129639936) (hb : b < 115792089237316195423570985008687907853269984665640564039457584007913129639936) :
    digs (2 ^ 64) a 4 = digs (2 ^ 64) b 4 ↔ a = b := by
  constructor
  · intro h
    have h1 := val_digs (B := 2 ^ 64) a 4
    have h2 := val_digs (B := 2 ^ 64) b 4
    rw [h] at h1
    rw [Nat.mod_eq_of_lt (a := a) (b := (2 ^ 64) ^ 4) (by omega)] at h1
    rw [Nat.mod_eq_of_lt (a := b) (b := (2 ^ 64) ^ 4) (by omega)] at h2
    omega
  · rintro rfl; rfl

set_option maxRecDepth 100000 in
theorem ordL_lt (n : Nat) : n % ordL < 115792089237316195423570985008687907853269984665640564039457584007913129639936 := Nat.lt_trans (Nat.mod_lt _ (by decide)) (by decide)

set_option maxRecDepth 100000 in
set_option maxHeartbeats 400000 in
theorem Canonical_any (s : ByteArray) (W : World) (hmax : s.size ≤ 9223372036854775807) :
    Calls Tryd.prog 18 #[.string s] W fun e w' => e = .returned (.bool (ocanB s)) ∧ Below W.heap.size W w' := by
  by_cases h32 : s.size = 32
  · obtain ⟨a0, a1, a2, a3, hqq, _⟩ := quad_list _ (ordL_lt (bytesNat s.data.toList))
    have hcan : (natBytes (bytesNat s.data.toList % ordL) 32 == s.toList) = ocanB s := by
      unfold ocanB
      rw [toList_data, Bool.eq_iff_iff, beq_iff_eq, decide_eq_true_eq]
      have hl : s.data.toList.length = 32 := by simpa using h32
      have hlt := bytesNat_lt s.data.toList
      rw [hl] at hlt
      constructor
      · intro h
        have h1 := bytesNat_natBytes (bytesNat s.data.toList % ordL) 32
        rw [h, Nat.mod_eq_of_lt (a := bytesNat s.data.toList % ordL) (b := 256 ^ 32) (Nat.lt_trans (Nat.mod_lt _ (by decide)) (by decide))] at h1
        exact ⟨h32, by rw [h1]; exact Nat.mod_lt _ (by decide)⟩
      · rintro ⟨_, h⟩
        rw [Nat.mod_eq_of_lt h]
        have := natBytes_bytesNat s.data.toList
        rwa [hl] at this
    have HC := hid hcan
    have H32 := hid h32
    have HQ := hid hqq
    clear hcan h32 hqq
    go_enter Tryd.func18, Tryd.ntmps18
    go_wp2_with fail
    refine (oOf_32 s _ H32.out).mono ?_
    rintro e w1 ⟨rfl, hb1⟩
    rw [HQ.out]
    go_wp2_with fail
    rw [← HQ.out]
    refine (Bytes_any _ _ (ordL_lt _)).mono ?_
    rintro e w2 ⟨rfl, hb2⟩
    have hb3 := below_to (below_alloc hb1 _) hb2
    clear hb1 hb2
    go_wp2_with fail
    go_ret
    exact ⟨congrArg (fun b => Ending.returned (.bool b)) HC.out, hb3⟩
  · have hcan : ocanB s = false := by unfold ocanB; exact decide_eq_false (fun h => h32 h.1)
    by_cases h64 : s.size = 64
    · obtain ⟨a0, a1, a2, a3, hqq, _⟩ := quad_list _ (ordL_lt (bytesNat s.data.toList))
      have hne : (natBytes (bytesNat s.data.toList % ordL) 32 == s.toList) = false := by
        rw [beq_eq_false_iff_ne]
        intro h
        have := congrArg List.length h
        rw [natBytes_length, toList_data] at this
        simp at this
        omega
      rw [hcan]
      have HC := hid hne
      have H64 := hid h64
      have HQ := hid hqq
      clear hcan h32 h64 hqq hne
      go_enter Tryd.func18, Tryd.ntmps18
      go_wp2_with fail
      refine (Of_64 s _ H64.out).mono ?_
      rintro e w1 ⟨rfl, hb1⟩
      rw [HQ.out]
      go_wp2_with fail
      rw [← HQ.out]
      refine (Bytes_any _ _ (ordL_lt _)).mono ?_
      rintro e w2 ⟨rfl, hb2⟩
      have hb3 := below_to (below_alloc hb1 _) hb2
      clear hb1 hb2
      go_wp2_with fail
      go_ret
      exact ⟨congrArg (fun b => Ending.returned (.bool b)) HC.out, hb3⟩
    · rw [hcan]
      clear hcan
      have H32 := hid h32
      have H64 := hid h64
      clear h32 h64
      go_enter Tryd.func18, Tryd.ntmps18
      go_wp2_with fail
      refine (oOf_no s _ H32.out H64.out hmax).mono ?_
      rintro e w1 ⟨rfl, hb1⟩
      rw [quad_zero]
      have hb3 := below_alloc hb1 (.cells #[.int .u64 0, .int .u64 0, .int .u64 0, .int .u64 0] 37)
      clear hb1
      go_wp2_with fail
      go_ret
      exact ⟨rfl, hb3⟩

end Go.Proofs.YtceljjnohjnepaaDoor

namespace Go.Proofs.YtceljjnohjnepaaDoor
open Go.RowKit DG

set_option maxRecDepth 100000 in
@[go_sem] theorem omake32_32 (w : World) : (Instr.makeSlice 27 (.int .i64 32) (.int .i64 32)).run Tryd.prog w = .ok (.slice (some ⟨w.heap.size, 0, none⟩) 32 32) (w.alloc (.cells (ints .u8 (List.replicate 32 0)) 5)) := by kernel_rfl

set_option maxRecDepth 100000 in
theorem onatBytes_getD (n k j : Nat) (h : j < k) : ((natBytes n k).getD j 0).toNat = (digs 256 n k).getD j 0 := by
  rw [← natBytes_map]
  have : j < (natBytes n k).length := by rw [natBytes_length]; exact h
  simp [this]

end Go.Proofs.YtceljjnohjnepaaDoor
