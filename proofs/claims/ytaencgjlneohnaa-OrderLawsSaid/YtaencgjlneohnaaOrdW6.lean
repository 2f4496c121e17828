/- The walks of the order's Same, Canonical, Clamp. -/
import Derived.Test.YtaencgjlneohnaaOrdW5
import Derived.Test.YtaencgjlneohnaaAQ
namespace Go.Proofs.Ytaencgjlneohnaa
open Go.RowKit DG

def eqB (a b : Nat) : Bool := decide (a = b)
def canB (s : ByteArray) : Bool := decide (s.size = 32 ∧ bytesNat s.data.toList < ordL)
theorem toList_data (s : ByteArray) : s.toList = s.data.toList := ByteArray.toList_eq s
theorem quad_list (n : Nat) (h : n < 115792089237316195423570985008687907853269984665640564039457584007913129639936) :
    ∃ x0 x1 x2 x3 : Nat, quad n = #[.int .u64 (x0 : Int), .int .u64 (x1 : Int), .int .u64 (x2 : Int), .int .u64 (x3 : Int)] ∧ digs (2 ^ 64) n 4 = [x0, x1, x2, x3] := ⟨_, _, _, _, quad_ints n, rfl⟩

theorem digs_eq {a b : Nat} (ha : a < 115792089237316195423570985008687907853269984665640564039457584007913129639936) (hb : b < 115792089237316195423570985008687907853269984665640564039457584007913129639936) :
    digs (2 ^ 64) a 4 = digs (2 ^ 64) b 4 ↔ a = b := by
  constructor
  · intro h
    have h1 := val_digs (B := 2 ^ 64) a 4
    have h2 := val_digs (B := 2 ^ 64) b 4
    rw [h] at h1
    rw [Nat.mod_eq_of_lt (a := a) (b := (2 ^ 64) ^ 4) (by omega)] at h1
    rw [Nat.mod_eq_of_lt (a := b) (b := (2 ^ 64) ^ 4) (by omega)] at h2
    omega
  · rintro rfl; rfl

set_option maxHeartbeats 400000 in
theorem Same_any (a b : Nat) (W : World) (ha : a < 115792089237316195423570985008687907853269984665640564039457584007913129639936) (hb : b < 115792089237316195423570985008687907853269984665640564039457584007913129639936) :
    Calls Try.prog 12 #[.agg (quad a), .agg (quad b)] W fun e w' => e = .returned (.bool (eqB a b)) ∧ Below W.heap.size W w' := by
  obtain ⟨a0, a1, a2, a3, hqa, hda⟩ := quad_list a ha
  obtain ⟨b0, b1, b2, b3, hqb, hdb⟩ := quad_list b hb
  have E : decide ([a0, a1, a2, a3] = [b0, b1, b2, b3]) = eqB a b := by rw [← hda, ← hdb]; exact decide_eq_decide.2 (digs_eq ha hb)
  have heq : ∀ w, (Op.equalIn 9999 24 (.agg #[.int .u64 (a0 : Int), .int .u64 (a1 : Int), .int .u64 (a2 : Int), .int .u64 (a3 : Int)]) (.agg #[.int .u64 (b0 : Int), .int .u64 (b1 : Int), .int .u64 (b2 : Int), .int .u64 (b3 : Int)])).run Try.prog w = .ok (eqB a b) w := by
    intro w
    rw [← E]
    exact run_equalIn_ints Try.underlying24 Try.underlying23 (by kernel_rfl) 9997 [a0, a1, a2, a3] [b0, b1, b2, b3] rfl rfl w
  rw [hqa, hqb]
  clear hqa hqb ha hb hda hdb E
  go_enter Try.func12, Try.ntmps12
  go_wp2_with fail
  all_goals (rename_i hh; go_ret)
  · exact ⟨congrArg (fun b => Ending.returned (.bool b)) hh.symm, below_alloc (below_new _) _⟩
  · exact ⟨congrArg (fun b => Ending.returned (.bool b)) (by simpa using hh : eqB a b = true).symm, below_alloc (below_new _) _⟩

theorem ordL_lt (n : Nat) : n % ordL < 115792089237316195423570985008687907853269984665640564039457584007913129639936 := Nat.lt_trans (Nat.mod_lt _ (by decide)) (by decide)

set_option maxHeartbeats 400000 in
theorem Canonical_any (s : ByteArray) (W : World) (hmax : s.size ≤ 9223372036854775807) :
    Calls Try.prog 9 #[.string s] W fun e w' => e = .returned (.bool (canB s)) ∧ Below W.heap.size W w' := by
  by_cases h32 : s.size = 32
  · obtain ⟨a0, a1, a2, a3, hqq, _⟩ := quad_list _ (ordL_lt (bytesNat s.data.toList))
    have hcan : (natBytes (bytesNat s.data.toList % ordL) 32 == s.toList) = canB s := by
      unfold canB
      rw [toList_data, Bool.eq_iff_iff, beq_iff_eq, decide_eq_true_eq]
      have hl : s.data.toList.length = 32 := by simpa using h32
      have hlt := bytesNat_lt s.data.toList
      rw [hl] at hlt
      constructor
      · intro h
        have h1 := bytesNat_natBytes (bytesNat s.data.toList % ordL) 32
        rw [h, Nat.mod_eq_of_lt (a := bytesNat s.data.toList % ordL) (b := 256 ^ 32) (Nat.lt_trans (Nat.mod_lt _ (by decide)) (by decide))] at h1
        exact ⟨h32, by rw [h1]; exact Nat.mod_lt _ (by decide)⟩
      · rintro ⟨_, h⟩
        rw [Nat.mod_eq_of_lt h]
        have := natBytes_bytesNat s.data.toList
        rwa [hl] at this
    have HC := hid hcan
    have H32 := hid h32
    have HQ := hid hqq
    clear hcan h32 hqq
    go_enter Try.func9, Try.ntmps9
    go_wp2_with fail
    refine (Of_32 s _ H32.out).mono ?_
    rintro e w1 ⟨rfl, hb1⟩
    rw [HQ.out]
    go_wp2_with fail
    rw [← HQ.out]
    refine (Bytes_any _ _ (ordL_lt _)).mono ?_
    rintro e w2 ⟨rfl, hb2⟩
    have hb3 := below_to (below_alloc hb1 _) hb2
    clear hb1 hb2
    go_wp2_with fail
    go_ret
    exact ⟨congrArg (fun b => Ending.returned (.bool b)) HC.out, hb3⟩
  · have hcan : canB s = false := by unfold canB; exact decide_eq_false (fun h => h32 h.1)
    by_cases h64 : s.size = 64
    · obtain ⟨a0, a1, a2, a3, hqq, _⟩ := quad_list _ (ordL_lt (bytesNat s.data.toList))
      have hne : (natBytes (bytesNat s.data.toList % ordL) 32 == s.toList) = false := by
        rw [beq_eq_false_iff_ne]
        intro h
        have := congrArg List.length h
        rw [natBytes_length, toList_data] at this
        simp at this
        omega
      rw [hcan]
      have HC := hid hne
      have H64 := hid h64
      have HQ := hid hqq
      clear hcan h32 h64 hqq hne
      go_enter Try.func9, Try.ntmps9
      go_wp2_with fail
      refine (Of_64 s _ H64.out).mono ?_
      rintro e w1 ⟨rfl, hb1⟩
      rw [HQ.out]
      go_wp2_with fail
      rw [← HQ.out]
      refine (Bytes_any _ _ (ordL_lt _)).mono ?_
      rintro e w2 ⟨rfl, hb2⟩
      have hb3 := below_to (below_alloc hb1 _) hb2
      clear hb1 hb2
      go_wp2_with fail
      go_ret
      exact ⟨congrArg (fun b => Ending.returned (.bool b)) HC.out, hb3⟩
    · rw [hcan]
      clear hcan
      have H32 := hid h32
      have H64 := hid h64
      clear h32 h64
      go_enter Try.func9, Try.ntmps9
      go_wp2_with fail
      refine (Of_no s _ H32.out H64.out hmax).mono ?_
      rintro e w1 ⟨rfl, hb1⟩
      rw [quad_zero]
      have hb3 := below_alloc hb1 (.cells #[.int .u64 0, .int .u64 0, .int .u64 0, .int .u64 0] 26)
      clear hb1
      go_wp2_with fail
      go_ret
      exact ⟨rfl, hb3⟩

end Go.Proofs.Ytaencgjlneohnaa
