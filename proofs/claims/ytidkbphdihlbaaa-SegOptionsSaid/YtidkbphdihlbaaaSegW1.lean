/- The walks of the numbers and the sum. -/
import Derived.Test.YtidkbphdihlbaaaSegP
import Derived.Test.YtidkbphdihlbaaaBRW
import Derived.Test.YtidkbphdihlbaaaLT
namespace Go.Proofs.Ytidkbphdihlbaaa
open Go.RowKit SG

@[go_sem] theorem make2 (w : World) : (Instr.makeSlice 32 (.int .i64 2) (.int .i64 2)).run Try.prog w = .ok (.slice (some ⟨w.heap.size, 0, none⟩) 2 2) (w.alloc (.cells (brow (List.replicate 2 0)) 5)) := by kernel_rfl
@[go_sem] theorem make4 (w : World) : (Instr.makeSlice 32 (.int .i64 4) (.int .i64 4)).run Try.prog w = .ok (.slice (some ⟨w.heap.size, 0, none⟩) 4 4) (w.alloc (.cells (brow (List.replicate 4 0)) 5)) := by kernel_rfl
@[go_sem] theorem make8 (w : World) : (Instr.makeSlice 32 (.int .i64 8) (.int .i64 8)).run Try.prog w = .ok (.slice (some ⟨w.heap.size, 0, none⟩) 8 8) (w.alloc (.cells (brow (List.replicate 8 0)) 5)) := by kernel_rfl

/-- The row when k bytes stand, from the back. -/
def filled (n x k : Nat) : List UInt8 := List.replicate (n - k) 0 ++ (be n x).drop (n - k)
theorem filled_len (n x k : Nat) (h : k ≤ n) : (filled n x k).length = n := by unfold filled; simp [be_length]; try omega
theorem filled_zero (n x : Nat) : filled n x 0 = List.replicate n 0 := by unfold filled; simp [List.drop_of_length_le, be_length]
theorem filled_end (n x : Nat) : filled n x n = be n x := by unfold filled; simp
theorem filled_step (n x k : Nat) (h : k < n) : (filled n x k).set (n - 1 - k) (UInt8.ofNat (x / 256 ^ k % 256)) = filled n x (k + 1) := by
  have e1 : n - k = (n - 1 - k) + 1 := by omega
  have e2 : n - (k + 1) = n - 1 - k := by omega
  unfold filled
  rw [e2, e1, List.replicate_succ', List.append_assoc, List.set_append_right _ _ (by simp), List.length_replicate, Nat.sub_self]
  rw [show (List.drop (n - 1 - k) (be n x)) = (be n x).getD (n - 1 - k) 0 :: (be n x).drop (n - 1 - k + 1) by
    rw [List.drop_eq_getElem_cons (by rw [be_length]; omega)]; simp [be_length, show n - 1 - k < n by omega], be_get n x k h]
  rfl
theorem byte_num (x k : Nat) : (x : Int) / (2 : Int) ^ (8 * k) % 256 = (((UInt8.ofNat (x / 256 ^ k % 256)).toNat : Nat) : Int) := by
  rw [toNat_mod, show ((2 : Int) ^ (8 * k)) = ((256 ^ k : Nat) : Int) by rw [Int.natCast_pow, show ((256 : Nat) : Int) = 2 ^ 8 from rfl, ← Int.pow_mul]]
  first | done | omega

set_option maxHeartbeats 1000000 in
theorem number_2 (x : Nat) (W : World) (hx : x < 18446744073709551616) :
    Calls Try.prog 12 #[.int .u64 (x : Int), .int .i64 2] W fun e w' => e = .returned (.string (bs (be 2 x))) ∧ Below W.heap.size W w' := by
  go_enter Try.func12, Try.ntmps12
  go_wp2_with fail
  obtain ⟨N, hN⟩ : ∃ N, N = W.heap.size := ⟨_, rfl⟩
  rw [← hN]
  have HN := hid hN
  go_loopw [10] (fun i wr => ∃ k : Nat, k ≤ 2 ∧ i = .int .i64 (k : Int) ∧ wr.heap[N]? = some (.cells (brow (filled 2 x k)) 5 (0, 0)) ∧ Below W.heap.size W wr) (fun i _ => (2 - intOf i).toNat)
  case atStart => exact ⟨0, by omega, rfl, by rw [filled_zero]; exact alloc_at' hN _, below_new _⟩
  case round =>
    clear hN
    obtain ⟨k, hk, rfl, rO, rb⟩ := hrel
    have RO := hid rO
    have RB := hid rb
    by_cases hlt : k < 2
    · have hd : decide ((k : Int) < 2) = true := decide_eq_true (by omega)
      have hdn : decide (k < 2) = true := decide_eq_true hlt
      have hw : IntKind.i64.wrap ((1 : Int) - (k : Int)) = (1 : Int) - (k : Int) := IntWalk.i64_in _ (by omega)
      have h8 : IntKind.i64.wrap (8 * (k : Int)) = 8 * (k : Int) := IntWalk.i64_in _ (by omega)
      have h80 : 0 ≤ 8 * (k : Int) := by omega
      have h88 : 8 * k < 64 := by omega
      have h89 : (8 * (k : Int)).toNat = 8 * k := by omega
      have j0 : 0 ≤ (1 : Int) - (k : Int) := by omega
      have j1 : (1 : Int) - (k : Int) < 2 := by omega
      have hst := filled_step 2 x k hlt
      have hc := byte_num x k
      have cc := brow_cell rO (j := 1 - k) (by rw [filled_len _ _ _ hk]; omega)
      have hf := free_at rO
      generalize UInt8.ofNat (x / 256 ^ k % 256) = c at *
      generalize (filled 2 x k).getD (1 - k) 0 = d at *
      have HST := hid hst
      have HC := hid hc
      clear hst hc rO rb
      go_wp2_with fail
      rw [HC.out]
      refine ⟨⟨k + 1, by omega, by go_num, ?_, RB.out.setCell (by have := HN.out; simp; omega) _⟩, by simp [intOf]; omega⟩
      rw [← HST.out]
      exact brow_store RO.out _ _
    · have hkk : k = 2 := by omega
      have hd : decide ((k : Int) < 2) = false := decide_eq_false (by omega)
      have hdn : decide (k < 2) = false := decide_eq_false hlt
      rw [hkk, filled_end] at rO
      have hcv := conv_string wr N 0 2 2 (be 2 x) (be_length _ _) (fun j hj => by rw [Nat.zero_add]; exact brow_cell rO (by rw [be_length]; exact hj))
      clear rO rb RO hkk
      go_wp2_with fail
      go_ret
      exact ⟨rfl, RB.out⟩

set_option maxHeartbeats 1000000 in
theorem number_4 (x : Nat) (W : World) (hx : x < 18446744073709551616) :
    Calls Try.prog 12 #[.int .u64 (x : Int), .int .i64 4] W fun e w' => e = .returned (.string (bs (be 4 x))) ∧ Below W.heap.size W w' := by
  go_enter Try.func12, Try.ntmps12
  go_wp2_with fail
  obtain ⟨N, hN⟩ : ∃ N, N = W.heap.size := ⟨_, rfl⟩
  rw [← hN]
  have HN := hid hN
  go_loopw [10] (fun i wr => ∃ k : Nat, k ≤ 4 ∧ i = .int .i64 (k : Int) ∧ wr.heap[N]? = some (.cells (brow (filled 4 x k)) 5 (0, 0)) ∧ Below W.heap.size W wr) (fun i _ => (4 - intOf i).toNat)
  case atStart => exact ⟨0, by omega, rfl, by rw [filled_zero]; exact alloc_at' hN _, below_new _⟩
  case round =>
    clear hN
    obtain ⟨k, hk, rfl, rO, rb⟩ := hrel
    have RO := hid rO
    have RB := hid rb
    by_cases hlt : k < 4
    · have hd : decide ((k : Int) < 4) = true := decide_eq_true (by omega)
      have hdn : decide (k < 4) = true := decide_eq_true hlt
      have hw : IntKind.i64.wrap ((3 : Int) - (k : Int)) = (3 : Int) - (k : Int) := IntWalk.i64_in _ (by omega)
      have h8 : IntKind.i64.wrap (8 * (k : Int)) = 8 * (k : Int) := IntWalk.i64_in _ (by omega)
      have h80 : 0 ≤ 8 * (k : Int) := by omega
      have h88 : 8 * k < 64 := by omega
      have h89 : (8 * (k : Int)).toNat = 8 * k := by omega
      have j0 : 0 ≤ (3 : Int) - (k : Int) := by omega
      have j1 : (3 : Int) - (k : Int) < 4 := by omega
      have hst := filled_step 4 x k hlt
      have hc := byte_num x k
      have cc := brow_cell rO (j := 3 - k) (by rw [filled_len _ _ _ hk]; omega)
      have hf := free_at rO
      generalize UInt8.ofNat (x / 256 ^ k % 256) = c at *
      generalize (filled 4 x k).getD (3 - k) 0 = d at *
      have HST := hid hst
      have HC := hid hc
      clear hst hc rO rb
      go_wp2_with fail
      rw [HC.out]
      refine ⟨⟨k + 1, by omega, by go_num, ?_, RB.out.setCell (by have := HN.out; simp; omega) _⟩, by simp [intOf]; omega⟩
      rw [← HST.out]
      exact brow_store RO.out _ _
    · have hkk : k = 4 := by omega
      have hd : decide ((k : Int) < 4) = false := decide_eq_false (by omega)
      have hdn : decide (k < 4) = false := decide_eq_false hlt
      rw [hkk, filled_end] at rO
      have hcv := conv_string wr N 0 4 4 (be 4 x) (be_length _ _) (fun j hj => by rw [Nat.zero_add]; exact brow_cell rO (by rw [be_length]; exact hj))
      clear rO rb RO hkk
      go_wp2_with fail
      go_ret
      exact ⟨rfl, RB.out⟩

set_option maxHeartbeats 1000000 in
theorem number_8 (x : Nat) (W : World) (hx : x < 18446744073709551616) :
    Calls Try.prog 12 #[.int .u64 (x : Int), .int .i64 8] W fun e w' => e = .returned (.string (bs (be 8 x))) ∧ Below W.heap.size W w' := by
  go_enter Try.func12, Try.ntmps12
  go_wp2_with fail
  obtain ⟨N, hN⟩ : ∃ N, N = W.heap.size := ⟨_, rfl⟩
  rw [← hN]
  have HN := hid hN
  go_loopw [10] (fun i wr => ∃ k : Nat, k ≤ 8 ∧ i = .int .i64 (k : Int) ∧ wr.heap[N]? = some (.cells (brow (filled 8 x k)) 5 (0, 0)) ∧ Below W.heap.size W wr) (fun i _ => (8 - intOf i).toNat)
  case atStart => exact ⟨0, by omega, rfl, by rw [filled_zero]; exact alloc_at' hN _, below_new _⟩
  case round =>
    clear hN
    obtain ⟨k, hk, rfl, rO, rb⟩ := hrel
    have RO := hid rO
    have RB := hid rb
    by_cases hlt : k < 8
    · have hd : decide ((k : Int) < 8) = true := decide_eq_true (by omega)
      have hdn : decide (k < 8) = true := decide_eq_true hlt
      have hw : IntKind.i64.wrap ((7 : Int) - (k : Int)) = (7 : Int) - (k : Int) := IntWalk.i64_in _ (by omega)
      have h8 : IntKind.i64.wrap (8 * (k : Int)) = 8 * (k : Int) := IntWalk.i64_in _ (by omega)
      have h80 : 0 ≤ 8 * (k : Int) := by omega
      have h88 : 8 * k < 64 := by omega
      have h89 : (8 * (k : Int)).toNat = 8 * k := by omega
      have j0 : 0 ≤ (7 : Int) - (k : Int) := by omega
      have j1 : (7 : Int) - (k : Int) < 8 := by omega
      have hst := filled_step 8 x k hlt
      have hc := byte_num x k
      have cc := brow_cell rO (j := 7 - k) (by rw [filled_len _ _ _ hk]; omega)
      have hf := free_at rO
      generalize UInt8.ofNat (x / 256 ^ k % 256) = c at *
      generalize (filled 8 x k).getD (7 - k) 0 = d at *
      have HST := hid hst
      have HC := hid hc
      clear hst hc rO rb
      go_wp2_with fail
      rw [HC.out]
      refine ⟨⟨k + 1, by omega, by go_num, ?_, RB.out.setCell (by have := HN.out; simp; omega) _⟩, by simp [intOf]; omega⟩
      rw [← HST.out]
      exact brow_store RO.out _ _
    · have hkk : k = 8 := by omega
      have hd : decide ((k : Int) < 8) = false := decide_eq_false (by omega)
      have hdn : decide (k < 8) = false := decide_eq_false hlt
      rw [hkk, filled_end] at rO
      have hcv := conv_string wr N 0 8 8 (be 8 x) (be_length _ _) (fun j hj => by rw [Nat.zero_add]; exact brow_cell rO (by rw [be_length]; exact hj))
      clear rO rb RO hkk
      go_wp2_with fail
      go_ret
      exact ⟨rfl, RB.out⟩

/-- The byte at a place. -/
def at8 (l : List UInt8) (k : Nat) : UInt8 := l.getD k 0
@[go_sem] theorem bs_get (l : List UInt8) (k : Nat) (h : k < (bs l).size) : (bs l)[k] = at8 l k := by
  have h2 : k < l.length := h
  show l.toArray[k] = l.getD k 0
  simp [h2]
theorem val_take (l : List UInt8) (k : Nat) (h : k < l.length) : SG.val (l.take (k + 1)) = 256 * SG.val (l.take k) + (l.getD k 0).toNat := by
  rw [List.take_succ_eq_append_getElem h, val_snoc]; simp [h]
theorem or_push (x c : Nat) (hx : x < 72057594037927936) (hc : c < 256) : bits .or .u64 (IntKind.u64.wrap ((x : Int) * 256)) (c : Int) = ((256 * x + c : Nat) : Int) := by
  have e : IntKind.u64.wrap ((x : Int) * 256) = ((x * 256 : Nat) : Int) := by rw [IntWalk.u64_in _ (by omega)]; rfl
  rw [e, u64_or_nat _ _ (by omega) (by omega)]
  congr 1
  rw [show x * 256 = 2 ^ 8 * x by omega, ← Nat.two_pow_add_eq_or_of_lt (by omega : c < 2 ^ 8)]

set_option maxHeartbeats 1000000 in
theorem value_any (l : List UInt8) (W : World) (hl : l.length ≤ 8) :
    Calls Try.prog 14 #[.string (bs l)] W fun e w' => e = .returned (.int .u64 (SG.val l : Int)) ∧ W = w' := by
  have hbz : (bs l).size = l.length := rfl
  go_enter Try.func14, Try.ntmps14
  go_wp2_with fail
  go_loopw [2, 6] (fun x i wr => ∃ k : Nat, k ≤ l.length ∧ i = .int .i64 (k : Int) ∧ x = .int .u64 (SG.val (l.take k) : Int) ∧ W = wr) (fun _ i _ => (l.length - intOf i).toNat)
  case atStart => exact ⟨0, by omega, rfl, rfl, rfl⟩
  case round =>
    obtain ⟨k, hk, rfl, rfl, rfl⟩ := hrel
    by_cases hlt : k < l.length
    · have hd : decide ((k : Int) < (l.length : Int)) = true := decide_eq_true (by omega)
      have hdn : decide (k < l.length) = true := decide_eq_true hlt
      have k0 : 0 ≤ (k : Int) := by omega
      have k1 : (k : Int) < (l.length : Int) := by omega
      have hv := val_take l k hlt
      have hvl := SG.val_lt (l.take k)
      have hpw : (256 : Nat) ^ (l.take k).length ≤ 256 ^ 7 := Nat.pow_le_pow_right (by omega) (by rw [List.length_take]; omega)
      have hcl := (l.getD k 0).toNat_lt
      have hor := or_push (SG.val (l.take k)) (l.getD k 0).toNat (by omega) (by omega)
      rw [← hv] at hor
      have hself : IntKind.u64.wrap (((l.getD k 0).toNat : Nat) : Int) = (((l.getD k 0).toNat : Nat) : Int) := IntWalk.u64_in _ (by omega)
      clear hvl hpw hv
      have hat : at8 l k = l.getD k 0 := rfl
      generalize l.getD k 0 = c at *
      go_wp2_with fail
      exact ⟨⟨k + 1, by omega, by go_num, by first | rfl | rw [hor], trivial⟩, by simp [intOf]; omega⟩
    · have hkk : k = l.length := by omega
      have hd : decide ((k : Int) < (l.length : Int)) = false := decide_eq_false (by omega)
      have hdn : decide (k < l.length) = false := decide_eq_false hlt
      rw [hkk, List.take_length]
      clear hkk
      go_wp2_with fail
      go_ret
      exact ⟨rfl, rfl⟩

theorem xor_max (n : Nat) (h : n < 65536) : 65535 ^^^ n = 65535 - n := by
  apply Nat.eq_of_testBit_eq
  intro i
  rw [show 65535 - n = 2 ^ 16 - (n + 1) by omega, Nat.testBit_two_pow_sub_succ (by omega), Nat.testBit_xor, show (65535 : Nat) = 2 ^ 16 - 1 from rfl, Nat.testBit_two_pow_sub_one]
  by_cases hi : i < 16
  · simp [hi]
  · have : n.testBit i = false := Nat.testBit_lt_two_pow (Nat.lt_of_lt_of_le h (by rw [show (65536 : Nat) = 2 ^ 16 from rfl]; exact Nat.pow_le_pow_right (by omega) (by omega)))
    simp [hi, this]
theorem not16 (n : Nat) (h : n < 65536) : bits .xor .u16 IntKind.u16.max (n : Int) = ((65535 - n : Nat) : Int) := by
  have hm : IntKind.u16.max = ((65535 : Nat) : Int) := rfl
  rw [hm, u16_xor_nat _ _ (by omega) h, xor_max n h]
theorem shift_wt (c k : Nat) (hc : c < 256) : IntKind.u64.wrap ((c : Int) * (2 : Int) ^ (8 - 8 * (k % 2))) = ((wt k * c : Nat) : Int) := by
  unfold wt
  rcases Nat.mod_two_eq_zero_or_one k with h | h
  · rw [h, if_pos rfl, IntWalk.u64_in _ (by simp; omega)]; simp; omega
  · rw [h, if_neg (by omega), IntWalk.u64_in _ (by simp; omega)]; simp

set_option maxHeartbeats 1000000 in
theorem ipsum_any (l : List UInt8) (W : World) (hl : l.length ≤ 1099511627776) :
    Calls Try.prog 17 #[.string (bs l)] W fun e w' => e = .returned (.int .u16 ((65535 - fold (ss true l) : Nat) : Int)) ∧ W = w' := by
  have hbz : (bs l).size = l.length := rfl
  go_enter Try.func17, Try.ntmps17
  go_wp2_with fail
  go_loopw [3, 7] (fun x i wr => ∃ k : Nat, k ≤ l.length ∧ i = .int .i64 (k : Int) ∧ x = .int .u64 (ss true (l.take k) : Int) ∧ W = wr) (fun _ i _ => (l.length - intOf i).toNat)
  case atStart => exact ⟨0, by omega, rfl, rfl, rfl⟩
  case round =>
    obtain ⟨k, hk, rfl, rfl, rfl⟩ := hrel
    by_cases hlt : k < l.length
    · have hd : decide ((k : Int) < (l.length : Int)) = true := decide_eq_true (by omega)
      have hdn : decide (k < l.length) = true := decide_eq_true hlt
      have k0 : 0 ≤ (k : Int) := by omega
      have k1 : (k : Int) < (l.length : Int) := by omega
      have m0 : 0 ≤ (k : Int) % 2 := by omega
      have m1 : (k : Int) % 2 < 2 := by omega
      have hv := ss_take_succ l k hlt
      have hcl := (l.getD k 0).toNat_lt
      have hsh := shift_wt (l.getD k 0).toNat k (by omega)
      have hle := ss_le true (l.take (k + 1))
      rw [List.length_take] at hle
      have hself : IntKind.u64.wrap (((l.getD k 0).toNat : Nat) : Int) = (((l.getD k 0).toNat : Nat) : Int) := IntWalk.u64_in _ (by omega)
      have hat : at8 l k = l.getD k 0 := rfl
      generalize l.getD k 0 = c at *
      generalize wt k * c.toNat = t at *
      have hadd : IntKind.u64.wrap ((ss true (l.take k) : Int) + (t : Int)) = (ss true (l.take (k + 1)) : Int) := by rw [hv, IntWalk.u64_in _ (by omega)]; omega
      clear hle hv
      go_wp2_with fail
      exact ⟨⟨k + 1, by omega, by go_num, rfl, trivial⟩, by simp [intOf]; omega⟩
    · have hkk : k = l.length := by omega
      have hd : decide ((k : Int) < (l.length : Int)) = false := decide_eq_false (by omega)
      have hdn : decide (k < l.length) = false := decide_eq_false hlt
      have hle := ss_le true l
      rw [hkk, List.take_length]
      clear hkk
      generalize hT : ss true l = T at *
      have HT := hid hT
      clear hT
      go_wp2_with fail
      clear hd hdn hlt hk
      go_loopw [3] (fun x wr => ∃ n : Nat, x = .int .u64 (n : Int) ∧ fold n = fold T ∧ n < 9223372036854775808 ∧ W = wr) (fun x _ => (intOf x).toNat)
      case atStart => exact ⟨T, rfl, rfl, by omega, rfl⟩
      case round =>
        obtain ⟨n, rfl, hfo, hn, rfl⟩ := hrel
        have hand : bits .and .u64 (n : Int) (65535 : Int) = ((n % 65536 : Nat) : Int) := by
          have h := u64_and_nat n 65535 (by omega) (by omega)
          rw [Nat.and_two_pow_sub_one_eq_mod n 16] at h
          exact h
        by_cases hb : 65536 ≤ n
        · have hne : ((n : Int) / 65536 != 0) = true := by rw [bne_iff_ne]; omega
          have hst := fold_step hb
          rw [hfo] at hst
          have hsum : IntKind.u64.wrap (((n % 65536 : Nat) : Int) + (n : Int) / 65536) = ((n % 65536 + n / 65536 : Nat) : Int) := by rw [IntWalk.u64_in _ (by omega)]; omega
          generalize hr : n % 65536 = r at *
          go_wp2_with fail
          refine ⟨⟨r + n / 65536, ?_, hst, by omega, trivial⟩, ?_⟩
          · first | rfl | simp only [hsum]
          · simp [intOf]; omega
        · have hne : ((n : Int) / 65536 != 0) = false := by rw [bne_eq_false_iff_eq]; omega
          have hw : IntKind.u16.wrap (n : Int) = (n : Int) := IntWalk.u16_in _ (by omega)
          have hnot := not16 n (by omega)
          rw [fold_small (by omega)] at hfo
          go_wp2_with fail
          go_ret
          exact ⟨by rw [HT.out, ← hfo]; show Ending.returned (Value.int .u16 (bits .xor .u16 IntKind.u16.max (n : Int))) = _; rw [hnot], rfl⟩

@[go_sem] theorem bs_append (l m : List UInt8) : bs l ++ bs m = bs (l ++ m) := by
  apply ByteArray.ext
  rw [ByteArray.data_append]
  show l.toArray ++ m.toArray = (l ++ m).toArray
  simp
@[go_sem] theorem bs_size (l : List UInt8) : (bs l).size = l.length := rfl
attribute [local go_sem] be_length List.length_append
theorem or_addr (a b : Nat) (ha : a < 4294967296) (hb : b < 4294967296) : bits .or .u64 (IntKind.u64.wrap ((a : Int) * 4294967296)) (b : Int) = ((a * 4294967296 + b : Nat) : Int) := by
  have e : IntKind.u64.wrap ((a : Int) * 4294967296) = ((a * 4294967296 : Nat) : Int) := by rw [IntWalk.u64_in _ (by omega)]; rfl
  rw [e, u64_or_nat _ _ (by omega) (by omega)]
  congr 1
  rw [show a * 4294967296 = 2 ^ 32 * a by omega, ← Nat.two_pow_add_eq_or_of_lt (by omega : b < 2 ^ 32)]

set_option maxHeartbeats 1000000 in
theorem segsum_any (l : List UInt8) (src dst : Nat) (W : World) (hl : l.length ≤ 1073741824) (hs : src < 4294967296) (hd : dst < 4294967296) :
    Calls Try.prog 11 #[.string (bs l), .int .u32 (src : Int), .int .u32 (dst : Int)] W fun e w' => e = .returned (.int .u16 ((csum l src dst : Nat) : Int)) ∧ Below W.heap.size W w' := by
  have hor := or_addr src dst hs hd
  rw [show IntKind.u64.wrap ((src : Int) * 4294967296) = (src : Int) * 4294967296 from IntWalk.u64_in _ (by omega)] at hor
  have h1 : IntKind.u64.wrap (src : Int) = (src : Int) := IntWalk.u64_in _ (by omega)
  have h2 : IntKind.u64.wrap (dst : Int) = (dst : Int) := IntWalk.u64_in _ (by omega)
  have h3 : IntKind.u64.wrap (l.length : Int) = (l.length : Int) := IntWalk.u64_in _ (by omega)
  have hlt : src * 4294967296 + dst < 18446744073709551616 := by omega
  obtain ⟨ad, had⟩ : ∃ ad, src * 4294967296 + dst = ad := ⟨_, rfl⟩
  have hcs : csum l src dst = 65535 - fold (ss true (be 8 ad ++ be 2 6 ++ be 2 l.length ++ l)) := by unfold csum total; rw [had]
  rw [had] at hor hlt
  have HCS := hid hcs
  clear had hcs
  go_enter Try.func11, Try.ntmps11
  go_wp2_with fail
  refine (number_8 ad _ hlt).mono ?_
  rintro e w1 ⟨rfl, hb1⟩
  clear hor
  go_wp2_with fail
  have h26 := number_2 6 w1 (by omega)
  rw [show ((6 : Nat) : Int) = 6 from rfl] at h26
  refine h26.mono ?_
  rintro e w2 ⟨rfl, hb2⟩
  clear h26
  have B2 := hid (below_to hb1 hb2)
  clear hb1 hb2
  go_wp2_with fail
  refine (number_2 l.length _ (by omega)).mono ?_
  rintro e w3 ⟨rfl, hb3⟩
  have B3 := hid (below_to B2.out hb3)
  clear hb3 B2
  go_wp2_with fail

  refine (ipsum_any _ _ (by simp [be_length]; omega)).mono ?_
  rintro e w4 ⟨rfl, rfl⟩
  go_wp2_with fail
  go_ret
  exact ⟨by rw [HCS.out]; first | done | rfl, B3.out⟩

end Go.Proofs.Ytidkbphdihlbaaa
