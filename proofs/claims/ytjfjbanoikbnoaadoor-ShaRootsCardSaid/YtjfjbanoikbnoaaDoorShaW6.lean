/- The walk of the program's digest. -/
import Derived.Test.YtjfjbanoikbnoaaDoorShaW5
import Derived.Test.YtjfjbanoikbnoaaDoorBYT
import Derived.Deep.LoopGhost
namespace Go.Proofs.YtjfjbanoikbnoaaDoor
open Go.RowKit

@[go_sem] theorem zero128 (w : World) : (zeroValue 38).run Tryd.prog w = .ok (.agg (brow (List.replicate 128 0))) w := by kernel_rfl
/-- The bytes of texts, one behind the other. -/
def cat (ss : List ByteArray) : List UInt8 := (ss.map fun s => s.data.toList).flatten
theorem cat_snoc (ss : List ByteArray) (s : ByteArray) : cat (ss ++ [s]) = cat ss ++ s.data.toList := by simp [cat]
theorem cat_take_succ (ss : List ByteArray) (k : Nat) (h : k < ss.length) : cat (ss.take (k + 1)) = cat (ss.take k) ++ (ss.getD k ByteArray.empty).data.toList := by
  rw [List.take_succ_eq_append_getElem h, cat_snoc]; simp [h]
theorem cat_take_le (ss : List ByteArray) (k : Nat) : (cat (ss.take k)).length ≤ (cat ss).length := by
  have : cat ss = cat (ss.take k) ++ cat (ss.drop k) := by unfold cat; rw [← List.flatten_append, ← List.map_append, List.take_append_drop]
  rw [this, List.length_append]; omega

theorem Taken.below {sb nb bb : Nat} {TG : TypeId} {fg : Nat × Nat} {l : List UInt8} {w w' : World} (h : Taken sb nb bb TG fg l w) (hb : Below w.heap.size w w') : Taken sb nb bb TG fg l w' := by
  obtain ⟨h1, h2, ⟨B, h3, h4, h5⟩, h6⟩ := h
  exact ⟨keepB hb h1, keepB hb h2, ⟨B, h3, h4, keepB hb h5⟩, keepB hb h6⟩
theorem Laid.but {w w' : World} {b : Nat} {l : List UInt8} {L : List Nat} (h : Laid w b l) (hb : But L w w') (hn : b ∉ L) : Laid w' b l := by
  obtain ⟨C, T, n, h1, h2, h3⟩ := h.ex
  exact ⟨⟨C, T, n, hb.keep h1 hn, h2, h3⟩⟩
theorem add_lit (c : UInt8) (k : Int) (hk : (c.toNat : Int) = k) (sb nb bb : Nat) (TG : TypeId) (fg : Nat × Nat) (l : List UInt8) (w : World) (h : Taken sb nb bb TG fg l w) (hl : l.length < 1152921504606846976) (h1 : sb ≠ nb) (h2 : sb ≠ bb) (h3 : nb ≠ bb) (h4 : sb ≠ 0) (h5 : nb ≠ 0) (h6 : bb ≠ 0) :
    Calls Tryd.prog 13 #[.int .u8 k, .pointer (some ⟨bb, 0, none⟩), .pointer (some ⟨nb, 0, none⟩), .pointer (some ⟨sb, 0, none⟩)] w
      fun e w' => e = .returned (.tuple #[]) ∧ Taken sb nb bb TG fg (l ++ [c]) w' ∧ But [sb, nb, bb] w w' := by
  subst hk; exact add_any c sb nb bb TG fg l w h hl h1 h2 h3 h4 h5 h6

theorem idx8 (l : List UInt64) (hl : l.length = 8) (i : Nat) (hi : i < 8) (w : World) : (Instr.index 37 (.agg (wrow l)) (.int .i64 (i : Int))).run Tryd.prog w = .ok (.int .u64 (UW (l.getD i 0))) w := by
  have hsz : (sizeOf 28).run Tryd.prog w = .ok 1 w := by kernel_rfl
  unfold Instr.index
  simp only [Sem.run_bind, asIntOf, Sem.run_pure, Result.andThen_ok, run_underlying Tryd.underlying37]
  rw [if_pos (by omega)]
  simp only [Sem.run_bind, hsz, Result.andThen_ok, Nat.mul_one, Int.toNat_natCast]
  unfold part
  have hagg : (isAgg 28).run Tryd.prog w = .ok false w := by
    unfold isAgg
    rw [Sem.run_bind, run_underlying Tryd.underlying28 w]
    rfl
  simp [Sem.run_bind, hagg, wrow_get l (show i < l.length by omega)]

theorem byte_of (x : UInt64) (k : Nat) (h : k < 64) : ((x >>> UInt64.ofNat k).toUInt8.toNat : Int) = UW x / (2 : Int) ^ k % 256 := by
  rw [u_shr x k h]
  unfold UW
  rw [UInt64.toNat_toUInt8]; omega
theorem bytes8_getD (x : UInt64) (j : Nat) (h : j < 8) : (SH.bytes8 x).getD j 0 = (x >>> UInt64.ofNat (56 - 8 * j)).toUInt8 := by
  match j, h with
  | 0, _ => rfl
  | 1, _ => rfl
  | 2, _ => rfl
  | 3, _ => rfl
  | 4, _ => rfl
  | 5, _ => rfl
  | 6, _ => rfl
  | 7, _ => rfl
/-- What stands behind the noughts. -/
def tail16 (n : Nat) : List UInt8 := List.replicate 8 0 ++ SH.bytes8 (8 * UInt64.ofNat n)
theorem tail_lo (n i : Nat) (h : i < 8) : (tail16 n).getD i 0 = 0 := by
  match i, h with
  | 0, _ => rfl
  | 1, _ => rfl
  | 2, _ => rfl
  | 3, _ => rfl
  | 4, _ => rfl
  | 5, _ => rfl
  | 6, _ => rfl
  | 7, _ => rfl
theorem tail_hi (n i : Nat) (hn : n < 1152921504606846976) (h : 8 ≤ i) (h2 : i < 16) : ((((tail16 n).getD i 0).toNat : Nat) : Int) = 8 * (n : Int) / (2 : Int) ^ (120 - 8 * i) % 256 := by
  have e1 : (tail16 n).getD i 0 = (SH.bytes8 (8 * UInt64.ofNat n)).getD (i - 8) 0 := by
    obtain ⟨j, rfl⟩ : ∃ j, i = j + 8 := ⟨i - 8, by omega⟩
    rw [show j + 8 - 8 = j by omega]
    rfl
  have e2 : UW (8 * UInt64.ofNat n) = 8 * (n : Int) := by
    unfold UW
    rw [UInt64.toNat_mul, UInt64.toNat_ofNat', show (8 : UInt64).toNat = 8 from rfl, Nat.mod_eq_of_lt (a := n) (b := 2 ^ 64) (by omega), Nat.mod_eq_of_lt (by omega)]
    omega
  rw [e1, bytes8_getD _ _ (by omega), byte_of _ _ (by omega), e2, show 56 - 8 * (i - 8) = 120 - 8 * i by omega]
theorem tail_len (n : Nat) : (tail16 n).length = 16 := rfl
theorem pad_eq (l : List UInt8) : SH.pad l = l ++ [128] ++ List.replicate (SH.zeros l.length) 0 ++ tail16 l.length := by
  unfold SH.pad tail16; simp only [List.append_assoc]
theorem out_getD (st : SH.St) (k j : Nat) (hk : k < 8) (hj : j < 8) : (SH.out st).getD (8 * k + j) 0 = (SH.bytes8 ((stl st).getD k 0)).getD j 0 := by
  have hk' : k = 0 ∨ k = 1 ∨ k = 2 ∨ k = 3 ∨ k = 4 ∨ k = 5 ∨ k = 6 ∨ k = 7 := by omega
  have hj' : j = 0 ∨ j = 1 ∨ j = 2 ∨ j = 3 ∨ j = 4 ∨ j = 5 ∨ j = 6 ∨ j = 7 := by omega
  rcases hk' with rfl | rfl | rfl | rfl | rfl | rfl | rfl | rfl <;> rcases hj' with rfl | rfl | rfl | rfl | rfl | rfl | rfl | rfl <;> rfl
theorem out_len (st : SH.St) : (SH.out st).length = 64 := rfl
theorem out_step (st : SH.St) (k j : Nat) (hk : k < 8) (hj : j < 8) : u8s ((SH.out st).take (8 * k + j)) ++ [.int .u8 (UW ((stl st).getD k 0) / (2 : Int) ^ (56 - 8 * j) % 256)] = u8s ((SH.out st).take (8 * k + (j + 1))) := by
  have hm : 8 * k + j < (SH.out st).length := by rw [out_len]; omega
  have e : (SH.out st)[8 * k + j] = (SH.out st).getD (8 * k + j) 0 := by simp [hm]
  rw [show 8 * k + (j + 1) = (8 * k + j) + 1 by omega, List.take_succ_eq_append_getElem hm, u8s_append, e, out_getD st k j hk hj, bytes8_getD _ _ hj]
  unfold u8s
  simp only [List.map_cons, List.map_nil]
  rw [byte_of _ _ (by omega)]

set_option maxRecDepth 100000 in
set_option maxHeartbeats 4000000 in
theorem Of_any (ss : List ByteArray) (a : Option Addr) (cap : Nat) (TG : TypeId) (fg : Nat × Nat) (W : World) (hG : W.heap[0]? = some (.cells (wrow SH.K) TG fg)) (hb : (cat ss).length < 1152921504606846976 - 300) (hl : ss.length ≤ 9223372036854775807)
    (ha : ss.length = 0 ∨ ∃ bw off, a = some ⟨bw, off, none⟩ ∧ ∀ j, j < ss.length → W.cell? ⟨bw, off + j, none⟩ = some (.string (ss.getD j ByteArray.empty))) :
    Calls Tryd.prog 7 #[.slice a ss.length cap] W fun e w' => e = .returned (.string ⟨(SH.sha (cat ss)).toArray⟩) ∧ Below W.heap.size W w' := by
  have h0 : 0 < W.heap.size := lt_blk hG
  have HG := hid hG
  have HA := hid ha
  clear hG ha
  generalize hlen : ss.length = len at *
  have HL := hid hlen
  clear hlen
  go_enter Tryd.func7, Tryd.ntmps7
  go_wp2_with fail
  obtain ⟨N, hN⟩ : ∃ N, N = W.heap.size := ⟨_, rfl⟩
  rw [← hN]
  have HN := hid hN
  have n1 : N ≠ N + 1 + 1 := by omega
  have n2 : N ≠ N + 1 := by omega
  have n3 : N + 1 + 1 ≠ N + 1 := by omega
  have n4 : N ≠ 0 := by omega
  have n5 : N + 1 + 1 ≠ 0 := by omega
  have n6 : N + 1 ≠ 0 := by omega
  have N1 := hid n1
  have N2 := hid n2
  have N3 := hid n3
  have N4 := hid n4
  have N5 := hid n5
  have N6 := hid n6
  clear n1 n2 n3 n4 n5 n6
  go_loopw [21] (fun i wr => ∃ k : Nat, k ≤ len ∧ i = .int .i64 (k : Int) ∧ Taken N (N + 1 + 1) (N + 1) TG fg (cat (ss.take k)) wr ∧ Below W.heap.size W wr) (fun i _ => (len - intOf i).toNat)
  case atStart =>
    have hc0 : cat (ss.take 0) = [] := by simp [cat]
    refine ⟨0, by omega, rfl, ⟨by rw [hc0]; exact alloc_old (alloc_old (alloc_at' hN _)), by rw [hc0]; exact alloc_at' (by simp [hN]) _, ⟨List.replicate 128 0, rfl, by simp [cat], alloc_old (alloc_at' (by simp [hN]) _)⟩, alloc_old (alloc_old (alloc_old HG.out))⟩, below_alloc (below_alloc (below_new _) _) _⟩
  case round =>
    clear hN
    obtain ⟨k, hk, rfl, rT, rb⟩ := hrel
    have RT := hid rT
    have RB := hid rb
    have hsz := rb.size
    have lN := lt_blk rT.num
    clear rT
    by_cases hlt : k < len
    · have hd : decide ((k : Int) < (len : Int)) = true := decide_eq_true (by omega)
      have hk0 : 0 ≤ (k : Int) := by omega
      have hk1 : (k : Int) < (len : Int) := by omega
      obtain ⟨bw, off, rfl, hc⟩ := HA.out.resolve_left (by omega)
      have hbw := World.block_lt_of_cell? W _ (hc k hlt)
      have cs := (rb.cell (p := ⟨bw, off + k, none⟩) hbw).trans (hc k hlt)
      have hcat := cat_take_succ ss k (by rw [HL.out]; exact hlt)
      have hle := cat_take_le ss (k + 1)
      generalize ss.getD k ByteArray.empty = s at *
      rw [hcat] at hle
      have HCAT := hid hcat
      have HLE := hid hle
      clear hc hcat hle rb
      have hss : s.size ≤ 9223372036854775807 := by have := HLE.out; rw [List.length_append] at this; simp at this; omega
      go_wp2_with fail
      have hL := laid_bytes wr s
      have hB := bytesWorld_below wr 5 s
      have T2 := hid (RT.out.below hB)
      have B2 := hid (below_to RB.out hB)
      have L2 := hid hL
      clear hB hL RT RB cs
      generalize Lib.bytesWorld wr 5 s = w2 at *
      generalize wr.heap.size = X at *
      generalize grownCap wr s.size 0 5 = cp at *
      have hX : X ∉ [N, N + 1 + 1, N + 1] := by simp; omega
      have HX := hid hX
      have hll : s.data.toList.length = s.size := by simp
      have HLL := hid hll
      clear hX hll
      go_loopw [28] (fun i wr => ∃ j : Nat, j ≤ s.size ∧ i = .int .i64 (j : Int) ∧ Taken N (N + 1 + 1) (N + 1) TG fg (cat (ss.take k) ++ s.data.toList.take j) wr ∧ Laid wr X s.data.toList ∧ Below W.heap.size W wr) (fun i _ => (s.size - intOf i).toNat)
      case atStart => exact ⟨0, by omega, rfl, by rw [List.take_zero, List.append_nil]; exact T2.out, L2.out, B2.out⟩
      case round =>
        clear T2 B2 L2
        obtain ⟨j, hj, rfl, rT, rL, rb⟩ := hrel
        have RT := hid rT
        have RL := hid rL
        have RB := hid rb
        by_cases hlt2 : j < s.size
        · have hd2 : decide ((j : Int) < (s.size : Int)) = true := decide_eq_true (by omega)
          have hj0 : 0 ≤ (j : Int) := by omega
          have hj1 : (j : Int) < (s.size : Int) := by omega
          have cj := rL.cell (j := j) (by rw [HLL.out]; exact hlt2)
          have htk : s.data.toList.take (j + 1) = s.data.toList.take j ++ [s.data.toList.getD j 0] := by
            rw [List.take_succ_eq_append_getElem (by rw [HLL.out]; exact hlt2)]; simp [hlt2]
          generalize s.data.toList.getD j 0 = c at *
          have HTK := hid htk
          clear htk rT rL rb
          go_wp2_with fail
          refine (add_any c N (N + 1 + 1) (N + 1) TG fg _ _ RT.out (by have := HLE.out; rw [List.length_append] at this; rw [List.length_append, List.length_take]; omega) N1.out N2.out N3.out N4.out N5.out N6.out).mono ?_
          rintro e w3 ⟨rfl, ht, ho⟩
          have T3 := hid ht
          have L3 := hid (RL.out.but ho HX.out)
          have B3 := hid (RB.out.trans (ho.below (by have := HN.out; simp; omega) RB.out.size))
          clear ht ho cj
          go_wp2_with fail
          exact ⟨⟨j + 1, by omega, by go_num, by rw [HTK.out, ← List.append_assoc]; exact T3.out, L3.out, B3.out⟩, by simp [intOf]; omega⟩
        · have hd2 : decide ((j : Int) < (s.size : Int)) = false := decide_eq_false (by omega)
          have hdn2 : decide (j < s.size) = false := decide_eq_false hlt2
          have hj5 : j = s.size := by omega
          have hts : s.data.toList.take s.size = s.data.toList := List.take_of_length_le (by rw [HLL.out]; exact Nat.le_refl _)
          rw [hj5, hts, ← HCAT.out] at rT
          have RT2 := hid rT
          clear rT rL rb RT hj5 hts
          go_wp2_with fail
          exact ⟨⟨k + 1, by omega, by go_num, RT2.out, RB.out⟩, by simp [intOf]; omega⟩
    · have hd : decide ((k : Int) < (len : Int)) = false := decide_eq_false (by omega)
      have hdn : decide (k < len) = false := decide_eq_false hlt
      have hk5 : k = len := by omega
      have ht := RT.out
      have hts : ss.take len = ss := List.take_of_length_le (by rw [HL.out]; exact Nat.le_refl _)
      rw [hk5, hts] at ht
      clear hts
      have hbl : (cat ss).length < 1152921504606846976 - 300 := hb
      generalize hLc : cat ss = L at *
      have HLC := hid hLc
      clear hLc
      obtain ⟨n, hn⟩ : ∃ n, L.length = n := ⟨_, rfl⟩
      have cn : wr.cell? ⟨N + 1 + 1, 0, none⟩ = some (.int .u64 (n : Int)) := by rw [cell_at ht.num, hn]; rfl
      rw [hn] at hbl
      have HNL := hid hn
      have T1 := hid ht
      clear ht RT hk5 hb hk hlt rb hn
      go_wp2_with fail
      refine (add_lit 128 128 rfl N (N + 1 + 1) (N + 1) TG fg L _ T1.out (by rw [HNL.out]; omega) N1.out N2.out N3.out N4.out N5.out N6.out).mono ?_
      rintro e w2 ⟨rfl, ht, ho⟩
      have T2 := hid ht
      have B2 := hid (RB.out.trans (ho.below (by have := HN.out; simp; omega) RB.out.size))
      clear ht ho cn T1 RB hd hsz lN
      go_wp2_with fail
      go_loopg [] (SH.zeros n + 1) (fun g wr => ∃ z : Nat, z + g = SH.zeros n + 1 ∧ 0 < g ∧ Taken N (N + 1 + 1) (N + 1) TG fg (L ++ [128] ++ List.replicate z 0) wr ∧ Below W.heap.size W wr)
      case atStart => exact ⟨0, by omega, by omega, by rw [List.replicate_zero, List.append_nil]; exact T2.out, B2.out⟩
      case round =>
        obtain ⟨z, hz, hg, rT, rb⟩ := hrel
        have RT := hid rT
        have RB := hid rb
        obtain ⟨m, hm⟩ : ∃ m, n + 1 + z = m := ⟨_, rfl⟩
        have hll : (L ++ [128] ++ List.replicate z 0).length = m := by rw [List.length_append, List.length_append, HNL.out, List.length_replicate, ← hm]; rfl
        have cn : wr.cell? ⟨N + 1 + 1, 0, none⟩ = some (.int .u64 (m : Int)) := by rw [cell_at rT.num, hll]; rfl
        have HLL := hid hll
        have hzz : SH.zeros n ≤ 127 := by unfold SH.zeros; omega
        clear rT rb hll
        by_cases hc : m % 128 = 112
        · have hd : (((m : Int) % 128) != 112) = false := by rw [bne_eq_false_iff_eq]; omega
          have hz5 : z = SH.zeros n := by unfold SH.zeros at hz hzz ⊢; omega
          have HZ5 := hid hz5
          have HM := hid hm
          clear hz5 hm hz hc
          go_wp2_with fail
          have rT := RT.out
          rw [HZ5.out] at rT
          generalize hL2 : L ++ [128] ++ List.replicate (SH.zeros n) 0 = L2 at *
          have RT2 := hid rT
          have HL2 := hid hL2
          have hlen2 : L2.length < 1152921504606846976 - 20 := by rw [← HL2.out, ← HZ5.out, HLL.out, ← HM.out]; have := HZ5.out; omega
          clear rT RT hL2 HLL cn hd
          go_loopw [46] (fun i wr => ∃ k : Nat, k ≤ 16 ∧ i = .int .i64 (k : Int) ∧ Taken N (N + 1 + 1) (N + 1) TG fg (L2 ++ (tail16 n).take k) wr ∧ Below W.heap.size W wr) (fun i _ => (16 - intOf i).toNat)
          case atStart => exact ⟨0, by omega, rfl, by rw [List.take_zero, List.append_nil]; exact RT2.out, RB.out⟩
          case round =>
            clear RT2 RB
            obtain ⟨k, hk, rfl, rT, rb⟩ := hrel
            have RT := hid rT
            have RB := hid rb
            have htl := tail_len n
            have hlen3 : (L2 ++ (tail16 n).take k).length < 1152921504606846976 := by rw [List.length_append, List.length_take]; omega
            have HLEN3 := hid hlen3
            clear rT rb hlen3
            by_cases hlt : k < 16
            · have hd : decide ((k : Int) < 16) = true := decide_eq_true (by omega)
              have htk : (tail16 n).take (k + 1) = (tail16 n).take k ++ [(tail16 n).getD k 0] := by
                rw [List.take_succ_eq_append_getElem (by rw [htl]; exact hlt)]; simp [htl, hlt]
              by_cases hlo : k < 8
              · have hd8 : decide ((k : Int) < 8) = true := decide_eq_true (by omega)
                rw [tail_lo n k hlo] at htk
                have HTK := hid htk
                clear htk htl
                go_wp2_with fail
                refine (add_lit 0 0 rfl N (N + 1 + 1) (N + 1) TG fg _ _ RT.out HLEN3.out N1.out N2.out N3.out N4.out N5.out N6.out).mono ?_
                rintro e w3 ⟨rfl, ht, ho⟩
                have T3 := hid ht
                have B3 := hid (RB.out.trans (ho.below (by have := HN.out; simp; omega) RB.out.size))
                clear ht ho
                go_wp2_with fail
                exact ⟨⟨k + 1, by omega, by go_num, by rw [HTK.out, ← List.append_assoc]; exact T3.out, B3.out⟩, by simp [intOf]; omega⟩
              · have hd8 : decide ((k : Int) < 8) = false := decide_eq_false (by omega)
                have hth := tail_hi n k (by omega) (by omega) hlt
                have hsub : (120 : Int) - 8 * (k : Int) = ((120 - 8 * k : Nat) : Int) := by omega
                have hsh : 120 - 8 * k < 64 := by omega
                have hk0 : 0 ≤ (k : Int) := by omega
                have hk1 : (k : Int) < 16 := by omega
                have hk8 : 8 ≤ (k : Int) := by omega
                have HTH := hid hth
                have HTK := hid htk
                generalize (tail16 n).getD k 0 = c at *
                clear htk htl hth
                go_wp2_with fail
                refine (add_lit c _ HTH.out N (N + 1 + 1) (N + 1) TG fg _ _ RT.out HLEN3.out N1.out N2.out N3.out N4.out N5.out N6.out).mono ?_
                rintro e w3 ⟨rfl, ht, ho⟩
                have T3 := hid ht
                have B3 := hid (RB.out.trans (ho.below (by have := HN.out; simp; omega) RB.out.size))
                clear ht ho
                go_wp2_with fail
                exact ⟨⟨k + 1, by omega, by go_num, by rw [HTK.out, ← List.append_assoc]; exact T3.out, B3.out⟩, by simp [intOf]; omega⟩
            · have hd : decide ((k : Int) < 16) = false := decide_eq_false (by omega)
              have hk5 : k = 16 := by omega
              have hP : L2 ++ (tail16 n).take k = SH.pad L := by
                rw [hk5, List.take_of_length_le (by rw [htl]; exact Nat.le_refl _), ← HL2.out, pad_eq, HNL.out]
              have rT := RT.out
              rw [hP] at rT
              have rS := rT.st
              generalize hst : SH.run (SH.pad L) ((SH.pad L).length / 128) = st at *
              have hsha : SH.out st = SH.sha L := by unfold SH.sha; rw [hst]
              have HSHA := hid hsha
              obtain ⟨c0, c1, c2, c3, c4, c5, c6, c7⟩ := oct_cells rS
              obtain ⟨x0, x1, x2, x3, x4, x5, x6, x7⟩ := st
              have hix : ∀ i : Nat, i < 8 → ∀ w, (Instr.index 37 (.agg #[.int .u64 (UW x0), .int .u64 (UW x1), .int .u64 (UW x2), .int .u64 (UW x3), .int .u64 (UW x4), .int .u64 (UW x5), .int .u64 (UW x6), .int .u64 (UW x7)]) (.int .i64 (i : Int))).run Tryd.prog w = .ok (.int .u64 (UW ((stl ⟨x0, x1, x2, x3, x4, x5, x6, x7⟩).getD i 0))) w := by
                intro i hi w
                exact idx8 (stl ⟨x0, x1, x2, x3, x4, x5, x6, x7⟩) rfl i hi w
              have HIX := hid hix
              obtain ⟨i0, hi, hz0, hz1, hz2⟩ := info_parts info_u8
              clear rT rS RT hst hsha hk5 hP hix htl
              go_wp2_with fail
              clear c0 c1 c2 c3 c4 c5 c6 c7 hd
              generalize hst : (⟨x0, x1, x2, x3, x4, x5, x6, x7⟩ : SH.St) = st at *
              clear hst
              go_loopw [13, 64] (fun v i wr => ∃ k : Nat, k ≤ 8 ∧ i = .int .i64 (k : Int) ∧ wr.ownsRow W.heap.size 5 1 v (8 * k) (u8s ((SH.out st).take (8 * k))) ∧ Below W.heap.size W wr) (fun _ i _ => (8 - intOf i).toNat)
              case atStart => exact ⟨0, by omega, rfl, ⟨rfl, .inl ⟨rfl, rfl⟩⟩, RB.out⟩
              case round =>
                clear RB
                obtain ⟨k, hk, rfl, hown, hb⟩ := hrel
                have HO := hid hown
                clear hown
                by_cases hk4 : k < 8
                · have hx := HIX.out k hk4
                  have hkd : decide ((k : Int) < 8) = true := decide_eq_true (by omega)
                  generalize hxx : (stl st).getD k 0 = x at *
                  have HX := hid hxx
                  clear hxx
                  go_wp2_with fail
                  clear hx
                  go_loopw [13, 67] (fun v i wq => ∃ j : Nat, j ≤ 8 ∧ i = .int .i64 (j : Int) ∧ wq.ownsRow W.heap.size 5 1 v (8 * k + j) (u8s ((SH.out st).take (8 * k + j))) ∧ Below W.heap.size W wq) (fun _ i _ => (8 - intOf i).toNat)
                  case atStart => exact ⟨0, by omega, rfl, HO.out, hb⟩
                  case round =>
                    obtain ⟨j, hj, rfl, hown, hb⟩ := hrel
                    have HOJ := hid hown
                    clear hown
                    by_cases hj8 : j < 8
                    · have hj0 : 0 ≤ (j : Int) * 8 := by omega
                      have hjd : decide ((j : Int) < 8) = true := decide_eq_true (by omega)
                      have hml : (8 * k + j) + 1 ≤ maxLen := by unfold maxLen; omega
                      have hsub : (56 : Int) - 8 * (j : Int) = ((56 - 8 * j : Nat) : Int) := by omega
                      have hsh : 56 - 8 * j < 64 := by omega
                      have hj1 : 0 ≤ (j : Int) := by omega
                      have hj2 : (j : Int) < 8 := by omega
                      have hstp := out_step st k j hk4 hj8
                      rw [HX.out] at hstp
                      have HSTP := hid hstp
                      clear hstp
                      go_wp2_with (at_builtin; refine wpList_append_own _ rfl _ _ 42 rfl W.heap.size 5 i0 (.int .u8 0) 1 1 Tryd.underlying42 hi hz0 hz1 hz2 rfl (by decide) _ _ _ rfl (HOJ.out.alloc _) ⟨wr.heap.size, 0, none⟩ 1 1 [.int .u8 (UW x / (2 : Int) ^ (56 - 8 * j) % 256)] rfl rfl ?c1 ?c2 hml ?c4 ?c5 ?_)
                      case c1 => exact cell_one_new _ _ _
                      case c2 => intro u hu; simp only [List.mem_cons, List.not_mem_nil, or_false] at hu; subst hu; rfl
                      case c4 => omega
                      case c5 => have := hb.size; simp; omega
                      intro v' w1 hown' hgrow _
                      have hb2 : Below W.heap.size W w1 := (below_alloc hb _).grown hgrow (by have := hb.size; simp; omega) (fun g hg => block_le HOJ.out hg)
                      rw [HSTP.out] at hown'
                      have HO' := hid hown'
                      clear hown' hgrow hml
                      go_wp2_with fail
                      go_roundw
                      case rel => exact ⟨j + 1, by omega, by go_num, HO'.out, hb2⟩
                      case measure => simp [intOf]; omega
                    · have hj9 : j = 8 := by omega
                      have hjd : decide ((j : Int) < 8) = false := decide_eq_false (by omega)
                      have ho := HOJ.out
                      rw [hj9, show 8 * k + 8 = 8 * (k + 1) by omega] at ho
                      have HO2 := hid ho
                      clear ho HOJ hj9
                      go_wp2_with fail
                      exact ⟨⟨k + 1, by omega, by go_num, HO2.out, hb⟩, by simp [intOf]; omega⟩
                · have hk5 : k = 8 := by omega
                  have hkd : decide ((k : Int) < 8) = false := decide_eq_false (by omega)
                  have ho := HO.out
                  rw [hk5, List.take_of_length_le (by rw [out_len]; decide)] at ho
                  obtain ⟨g, cp, rfl, _, _, hcell⟩ := owns_cell ho (by rw [out_len]) (by decide)
                  have hcv := conv_string wr g 0 64 cp (SH.out st) (out_len st) (fun j hj => by rw [Nat.zero_add]; exact hcell j (by omega))
                  rw [HSHA.out] at hcv
                  have hk64 : 8 * 8 = 64 := rfl
                  clear ho HO hcell hk5
                  go_wp2_with fail
                  go_ret
                  exact ⟨by rw [HLC.out]; rfl, hb⟩
        · have hd : (((m : Int) % 128) != 112) = true := by rw [bne_iff_ne]; omega
          have hzlt : z < SH.zeros n := by
            rcases Nat.lt_or_ge z (SH.zeros n) with h | h
            · exact h
            · exact absurd (show m % 128 = 112 by unfold SH.zeros at *; omega) hc
          have HZ := hid hz
          have HM := hid hm
          clear hm hc hz hzz
          go_wp2_with fail
          refine (add_lit 0 0 rfl N (N + 1 + 1) (N + 1) TG fg _ _ RT.out (by rw [HLL.out, ← HM.out]; have := HZ.out; have : SH.zeros n ≤ 127 := by (unfold SH.zeros; omega)
                                                                             omega) N1.out N2.out N3.out N4.out N5.out N6.out).mono ?_
          rintro e w3 ⟨rfl, ht, ho⟩
          have T3 := hid ht
          have B3 := hid (RB.out.trans (ho.below (by have := HN.out; simp; omega) RB.out.size))
          clear ht ho cn
          go_wp2_with fail
          go_roundg (gk - 1)
          case measure => omega
          case rel => exact ⟨z + 1, by have := HZ.out; omega, by have := HZ.out; omega, by rw [List.replicate_succ', ← List.append_assoc]; exact T3.out, B3.out⟩

end Go.Proofs.YtjfjbanoikbnoaaDoor
