/- The walks of the document's sum. -/
import Derived.Test.YtidkbphdihlbaaaSegW5
namespace Go.Proofs.Ytidkbphdihlbaaa
open Go.RowKit SG

attribute [local go_sem] be_length List.length_append
theorem byte_mod (x : Nat) : (x : Int) % 256 = (((UInt8.ofNat (x % 256)).toNat : Nat) : Int) := by rw [toNat_mod]; omega

set_option maxHeartbeats 1000000 in
theorem rnum_2 (x : Nat) (W : World) (hx : x < 18446744073709551616) :
    Calls Try.prog 16 #[.int .u64 (x : Int), .int .i64 2] W fun e w' => e = .returned (.string (bs (be 2 x))) ∧ Below W.heap.size W w' := by
  go_enter Try.func16, Try.ntmps16
  go_wp2_with fail
  obtain ⟨N, hN⟩ : ∃ N, N = W.heap.size := ⟨_, rfl⟩
  rw [← hN]
  have HN := hid hN
  go_loopw [0, 6] (fun xv i wr => ∃ k : Nat, k ≤ 2 ∧ i = .int .i64 ((1 : Int) - (k : Int)) ∧ xv = .int .u64 ((x / 256 ^ k : Nat) : Int) ∧ wr.heap[N]? = some (.cells (brow (filled 2 x k)) 5 (0, 0)) ∧ Below W.heap.size W wr) (fun _ i _ => (intOf i + 1).toNat)
  case atStart => exact ⟨0, by omega, rfl, by simp, by rw [filled_zero]; exact alloc_at' hN _, below_new _⟩
  case round =>
    clear hN
    obtain ⟨k, hk, rfl, rfl, rO, rb⟩ := hrel
    have RO := hid rO
    have RB := hid rb
    by_cases hlt : k < 2
    · have hd : decide ((1 : Int) - (k : Int) ≥ 0) = true := decide_eq_true (by omega)
      have hdn : decide (0 ≤ (1 : Int) - (k : Int)) = true := decide_eq_true (by omega)
      have j0 : 0 ≤ (1 : Int) - (k : Int) := by omega
      have j1 : (1 : Int) - (k : Int) < 2 := by omega
      have hst := filled_step 2 x k hlt
      have hdiv : ((x / 256 ^ k : Nat) : Int) / 256 = ((x / 256 ^ (k + 1) : Nat) : Int) := by
        rw [Nat.pow_succ, ← Nat.div_div_eq_div_mul]; omega
      obtain ⟨y, hy⟩ : ∃ y, x / 256 ^ k = y := ⟨_, rfl⟩
      rw [hy] at hst hdiv ⊢
      have hc := byte_mod y
      have cc := brow_cell rO (j := 1 - k) (by rw [filled_len _ _ _ hk]; omega)
      have hf := free_at rO
      have hwk : IntKind.i64.wrap ((1 : Int) - (k : Int) - 1) = (1 : Int) - (k : Int) - 1 := IntWalk.i64_in _ (by omega)
      generalize UInt8.ofNat (y % 256) = c at *
      generalize (filled 2 x k).getD (1 - k) 0 = d at *
      have HST := hid hst
      have HC := hid hc
      have HZ := hid hdiv
      clear hst hc rO rb hy hdiv
      go_wp2_with fail
      rw [HC.out]
      refine ⟨⟨k + 1, by omega, by congr 1; omega, by rw [HZ.out], ?_, RB.out.setCell (by have := HN.out; simp; omega) _⟩, by simp [intOf]; omega⟩
      rw [← HST.out]
      exact brow_store RO.out _ _
    · have hkk : k = 2 := by omega
      have hd : decide ((1 : Int) - (k : Int) ≥ 0) = false := decide_eq_false (by omega)
      have hdn : decide (0 ≤ (1 : Int) - (k : Int)) = false := decide_eq_false (by omega)
      rw [hkk, filled_end] at rO
      have hcv := conv_string wr N 0 2 2 (be 2 x) (be_length _ _) (fun j hj => by rw [Nat.zero_add]; exact brow_cell rO (by rw [be_length]; exact hj))
      clear rO rb RO hkk
      go_wp2_with fail
      go_ret
      exact ⟨rfl, RB.out⟩

set_option maxHeartbeats 1000000 in
theorem rnum_4 (x : Nat) (W : World) (hx : x < 18446744073709551616) :
    Calls Try.prog 16 #[.int .u64 (x : Int), .int .i64 4] W fun e w' => e = .returned (.string (bs (be 4 x))) ∧ Below W.heap.size W w' := by
  go_enter Try.func16, Try.ntmps16
  go_wp2_with fail
  obtain ⟨N, hN⟩ : ∃ N, N = W.heap.size := ⟨_, rfl⟩
  rw [← hN]
  have HN := hid hN
  go_loopw [0, 6] (fun xv i wr => ∃ k : Nat, k ≤ 4 ∧ i = .int .i64 ((3 : Int) - (k : Int)) ∧ xv = .int .u64 ((x / 256 ^ k : Nat) : Int) ∧ wr.heap[N]? = some (.cells (brow (filled 4 x k)) 5 (0, 0)) ∧ Below W.heap.size W wr) (fun _ i _ => (intOf i + 1).toNat)
  case atStart => exact ⟨0, by omega, rfl, by simp, by rw [filled_zero]; exact alloc_at' hN _, below_new _⟩
  case round =>
    clear hN
    obtain ⟨k, hk, rfl, rfl, rO, rb⟩ := hrel
    have RO := hid rO
    have RB := hid rb
    by_cases hlt : k < 4
    · have hd : decide ((3 : Int) - (k : Int) ≥ 0) = true := decide_eq_true (by omega)
      have hdn : decide (0 ≤ (3 : Int) - (k : Int)) = true := decide_eq_true (by omega)
      have j0 : 0 ≤ (3 : Int) - (k : Int) := by omega
      have j1 : (3 : Int) - (k : Int) < 4 := by omega
      have hst := filled_step 4 x k hlt
      have hdiv : ((x / 256 ^ k : Nat) : Int) / 256 = ((x / 256 ^ (k + 1) : Nat) : Int) := by
        rw [Nat.pow_succ, ← Nat.div_div_eq_div_mul]; omega
      obtain ⟨y, hy⟩ : ∃ y, x / 256 ^ k = y := ⟨_, rfl⟩
      rw [hy] at hst hdiv ⊢
      have hc := byte_mod y
      have cc := brow_cell rO (j := 3 - k) (by rw [filled_len _ _ _ hk]; omega)
      have hf := free_at rO
      have hwk : IntKind.i64.wrap ((3 : Int) - (k : Int) - 1) = (3 : Int) - (k : Int) - 1 := IntWalk.i64_in _ (by omega)
      generalize UInt8.ofNat (y % 256) = c at *
      generalize (filled 4 x k).getD (3 - k) 0 = d at *
      have HST := hid hst
      have HC := hid hc
      have HZ := hid hdiv
      clear hst hc rO rb hy hdiv
      go_wp2_with fail
      rw [HC.out]
      refine ⟨⟨k + 1, by omega, by congr 1; omega, by rw [HZ.out], ?_, RB.out.setCell (by have := HN.out; simp; omega) _⟩, by simp [intOf]; omega⟩
      rw [← HST.out]
      exact brow_store RO.out _ _
    · have hkk : k = 4 := by omega
      have hd : decide ((3 : Int) - (k : Int) ≥ 0) = false := decide_eq_false (by omega)
      have hdn : decide (0 ≤ (3 : Int) - (k : Int)) = false := decide_eq_false (by omega)
      rw [hkk, filled_end] at rO
      have hcv := conv_string wr N 0 4 4 (be 4 x) (be_length _ _) (fun j hj => by rw [Nat.zero_add]; exact brow_cell rO (by rw [be_length]; exact hj))
      clear rO rb RO hkk
      go_wp2_with fail
      go_ret
      exact ⟨rfl, RB.out⟩

set_option maxHeartbeats 1000000 in
theorem rsum18_any (l : List UInt8) (W : World) (hl : l.length ≤ 1099511627776) :
    Calls Try.prog 15 #[.string (bs l)] W fun e w' => e = .returned (.int .u16 ((65535 - fold (ss true l) : Nat) : Int)) ∧ W = w' := by
  have hbz : (bs l).size = l.length := rfl
  go_enter Try.func15, Try.ntmps15
  go_wp2_with fail
  go_loopw [3, 4] (fun x i wr => ∃ k : Nat, k ≤ l.length ∧ i = .int .i64 (k : Int) ∧ x = .int .i64 (ss true (l.take k) : Int) ∧ W = wr) (fun _ i _ => (l.length - intOf i).toNat)
  case atStart => exact ⟨0, by omega, rfl, rfl, rfl⟩
  case round =>
    obtain ⟨k, hk, rfl, rfl, rfl⟩ := hrel
    by_cases hlt : k < l.length
    · have hd : decide ((k : Int) < (l.length : Int)) = true := decide_eq_true (by omega)
      have hdn : decide (k < l.length) = true := decide_eq_true hlt
      have k0 : 0 ≤ (k : Int) := by omega
      have k1 : (k : Int) < (l.length : Int) := by omega
      have hv := ss_take_succ l k hlt
      have hcl := (l.getD k 0).toNat_lt
      have hle := ss_le true (l.take (k + 1))
      rw [List.length_take] at hle
      have hat : at8 l k = l.getD k 0 := rfl
      generalize l.getD k 0 = c at *
      by_cases hp : k % 2 = 0
      · have tp : ((k : Int) % 2 == 0) = true := by rw [beq_iff_eq]; omega
        rw [show wt k = 256 from if_pos hp] at hv
        have hadd : IntKind.i64.wrap ((ss true (l.take k) : Int) + 256 * (c.toNat : Int)) = (ss true (l.take (k + 1)) : Int) := by rw [hv, IntWalk.i64_in _ (by omega)]; omega
        generalize ss true (l.take k) = S at *
        have HV := hid hv
        clear hle hv hp
        go_wp2_with fail
        exact ⟨⟨k + 1, by omega, by go_num, rfl, trivial⟩, by simp [intOf]; omega⟩
      · have tp : ((k : Int) % 2 == 0) = false := by rw [beq_eq_false_iff_ne]; omega
        rw [show wt k = 1 from if_neg hp, Nat.one_mul] at hv
        have hadd : IntKind.i64.wrap ((ss true (l.take k) : Int) + (c.toNat : Int)) = (ss true (l.take (k + 1)) : Int) := by rw [hv, IntWalk.i64_in _ (by omega)]; omega
        generalize ss true (l.take k) = S at *
        have HV := hid hv
        clear hle hv hp
        go_wp2_with fail
        exact ⟨⟨k + 1, by omega, by go_num, rfl, trivial⟩, by simp [intOf]; omega⟩
    · have hkk : k = l.length := by omega
      have hd : decide ((k : Int) < (l.length : Int)) = false := decide_eq_false (by omega)
      have hdn : decide (k < l.length) = false := decide_eq_false hlt
      have hle := ss_le true l
      rw [hkk, List.take_length]
      clear hkk
      generalize hT : ss true l = T at *
      have HT := hid hT
      clear hT
      go_wp2_with fail
      clear hd hdn hlt hk
      go_loopw [3] (fun x wr => ∃ n : Nat, x = .int .i64 (n : Int) ∧ fold n = fold T ∧ n < 4611686018427387904 ∧ W = wr) (fun x _ => (intOf x).toNat)
      case atStart => exact ⟨T, rfl, rfl, by omega, rfl⟩
      case round =>
        obtain ⟨n, rfl, hfo, hn, rfl⟩ := hrel
        by_cases hb : 65536 ≤ n
        · have hne : decide ((n : Int) > 65535) = true := decide_eq_true (by omega)
          have hne' : decide (65535 < (n : Int)) = true := decide_eq_true (by omega)
          have hst := fold_step hb
          rw [hfo] at hst
          go_wp2_with fail
          refine ⟨⟨n % 65536 + n / 65536, ?_, hst, by omega, trivial⟩, ?_⟩
          · congr 1
          · simp [intOf]; omega
        · have hne : decide ((n : Int) > 65535) = false := decide_eq_false (by omega)
          have hne' : decide (65535 < (n : Int)) = false := decide_eq_false (by omega)
          have hw : IntKind.u16.wrap (65535 - (n : Int)) = ((65535 - n : Nat) : Int) := by rw [IntWalk.u16_in _ (by omega)]; omega
          rw [fold_small (by omega)] at hfo
          have HFO := hid hfo
          clear hfo
          go_wp2_with fail
          go_ret
          exact ⟨by rw [HT.out, ← HFO.out]; first | rfl | (show Ending.returned (Value.int .u16 (65535 - (n : Int))) = _; congr 2; omega), rfl⟩

theorem be_two (n : Nat) : be 2 6 = [0, 6] := by decide
set_option maxHeartbeats 1000000 in
theorem rsum_any (l : List UInt8) (src dst : Nat) (W : World) (hl : l.length ≤ 1073741824) (hs : src < 4294967296) (hd : dst < 4294967296) :
    Calls Try.prog 10 #[.string (bs l), .int .u32 (src : Int), .int .u32 (dst : Int)] W fun e w' => e = .returned (.int .u16 ((csum l src dst : Nat) : Int)) ∧ Below W.heap.size W w' := by
  have h1 : IntKind.u64.wrap (src : Int) = (src : Int) := IntWalk.u64_in _ (by omega)
  have h2 : IntKind.u64.wrap (dst : Int) = (dst : Int) := IntWalk.u64_in _ (by omega)
  have h3 : IntKind.u64.wrap (l.length : Int) = (l.length : Int) := IntWalk.u64_in _ (by omega)
  have hcs : csum l src dst = 65535 - fold (ss true (be 4 src ++ (be 4 dst ++ 0 :: 6 :: (be 2 l.length ++ l)))) := by
    have e8 : be 8 (src * 4294967296 + dst) = be 4 src ++ be 4 dst := be_take 4 src dst 4 hd
    unfold csum total
    rw [e8, be_two 0]
    simp
  have HCS := hid hcs
  clear hcs
  go_enter Try.func10, Try.ntmps10
  go_wp2_with fail
  refine (rnum_4 src _ (by omega)).mono ?_
  rintro e w1 ⟨rfl, hb1⟩
  go_wp2_with fail
  refine (rnum_4 dst _ (by omega)).mono ?_
  rintro e w2 ⟨rfl, hb2⟩
  have B2 := hid (below_to hb1 hb2)
  clear hb1 hb2
  go_wp2_with fail
  refine (rnum_2 l.length _ (by omega)).mono ?_
  rintro e w3 ⟨rfl, hb3⟩
  have B3 := hid (below_to B2.out hb3)
  clear hb3 B2
  go_wp2_with fail
  refine (rsum18_any _ _ (by simp only [List.length_append, List.length_cons, be_length]; omega)).mono ?_
  rintro e w4 ⟨rfl, rfl⟩
  go_wp2_with fail
  go_ret
  exact ⟨by rw [HCS.out]; first | done | rfl, B3.out⟩

end Go.Proofs.Ytidkbphdihlbaaa
