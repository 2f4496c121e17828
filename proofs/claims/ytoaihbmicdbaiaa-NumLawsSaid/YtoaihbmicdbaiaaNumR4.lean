/- The walks of the document's numbers: Read, Of, Small, Add, Sub. -/
import Derived.Test.YtoaihbmicdbaiaaNumR3
namespace Go.Proofs.Ytoaihbmicdbaiaa
open Go.RowKit DG
attribute [local go_sem ↓] exl_Num exs_Num exl_A19 exs_A19
                 attribute [local go_sem] ldr_Num str_Num ldr_A19 str_A19
attribute [local go_sem] to_nine0

/-- One bit more in digits of w bits. -/
theorem bit_step {w n b k m : Nat} (hw : 0 < w) (hn : n < 2 ^ k) (hb : b < 2) (hk : k < w * m) :
    digs (2 ^ w) (n + b * 2 ^ k) m = (digs (2 ^ w) n m).set (k / w) ((digs (2 ^ w) n m).getD (k / w) 0 + b * 2 ^ (k % w)) ∧
      (digs (2 ^ w) n m).getD (k / w) 0 < 2 ^ (k % w) := by
  have hkm : k / w < m := Nat.div_lt_of_lt_mul hk
  have hrw : k % w < w := Nat.mod_lt _ hw
  have hpk : (2 : Nat) ^ k = (2 ^ w) ^ (k / w) * 2 ^ (k % w) := by rw [← Nat.pow_mul, ← Nat.pow_add, Nat.div_add_mod]
  have hg : (digs (2 ^ w) n m).getD (k / w) 0 < 2 ^ (k % w) := by
    rw [digs_getD n hkm]
    refine Nat.lt_of_le_of_lt (Nat.mod_le _ _) ?_
    exact Nat.div_lt_of_lt_mul (by rw [← hpk]; exact hn)
  refine ⟨?_, hg⟩
  have hB : 2 ^ (k + 1) ≤ (2 ^ w) ^ m := by rw [← Nat.pow_mul]; exact Nat.pow_le_pow_right (by decide) hk
  have hle : b * 2 ^ k ≤ 1 * 2 ^ k := Nat.mul_le_mul_right _ (by omega)
  have hsum : n + b * 2 ^ k < (2 ^ w) ^ m := by rw [Nat.pow_succ] at hB; omega
  have hn' : n < (2 ^ w) ^ m := by omega
  refine val_inj (B := 2 ^ w) (digs_all (Nat.two_pow_pos _) _ _) ?_ (by rw [digs_length, List.length_set, digs_length]) ?_
  · intro x hx
    rcases List.mem_or_eq_of_mem_set hx with h | h
    · exact digs_all (Nat.two_pow_pos _) _ _ x h
    · rw [h]
      have h1 : b * 2 ^ (k % w) ≤ 1 * 2 ^ (k % w) := Nat.mul_le_mul_right _ (by omega)
      have h2 : 2 ^ (k % w + 1) ≤ 2 ^ w := Nat.pow_le_pow_right (by decide) (by omega)
      rw [Nat.pow_succ] at h2
      omega
  · have hs := val_set (B := 2 ^ w) (l := digs (2 ^ w) n m) (j := k / w) (by rw [digs_length]; exact hkm) ((digs (2 ^ w) n m).getD (k / w) 0 + b * 2 ^ (k % w))
    rw [val_digs, Nat.mod_eq_of_lt hn', Nat.add_mul] at hs
    rw [val_digs, Nat.mod_eq_of_lt hsum, hpk]
    rw [Nat.mul_assoc, Nat.mul_comm (2 ^ (k % w))] at hs
    omega
theorem set_getD (l : List Nat) (k : Nat) : l.set k (l.getD k 0) = l := by
  rcases Nat.lt_or_ge k l.length with h | h
  · rw [getD_at h, List.set_getElem_self]
  · rw [List.set_eq_of_length_le h]
theorem mod_bit (n k : Nat) : n % 2 ^ (k + 1) = n % 2 ^ k + n / 2 ^ k % 2 * 2 ^ k := by rw [Nat.pow_succ, Nat.mod_mul, Nat.mul_comm]
theorem B30_pow : B30 = 2 ^ 30 := rfl
theorem and1_shr8 (x r : Nat) (hx : x < 256) : bits .and .u8 ((x : Int) / (2 : Int) ^ r) 1 = ((x / 2 ^ r % 2 : Nat) : Int) := by
  have e : ((x : Int) / (2 : Int) ^ r) = ((x / 2 ^ r : Nat) : Int) := by rw [Int.natCast_ediv, Int.natCast_pow]; rfl
  have hle : x / 2 ^ r ≤ x := Nat.div_le_self _ _
  rw [e, show (1 : Int) = ((1 : Nat) : Int) from rfl, u8_and_nat _ _ (by omega) (by decide), nat_mask1]
theorem bit_of_bytes (l : List UInt8) (m : Nat) (h : m < 8 * l.length) : bytesNat l / 2 ^ m % 2 = (l.getD (m / 8) 0).toNat / 2 ^ (m % 8) % 2 := by
  have := bit_digit (w := 8) (l := l.map (·.toNat)) (bytes_all l) m (by decide) (by simpa using h)
  unfold bytesNat
  rw [show (256 : Nat) = 2 ^ 8 from rfl, this]
  have hj : m / 8 < l.length := by omega
  simp [hj]
theorem cast_bit (d r : Nat) : ((d + 1 * 2 ^ r : Nat) : Int) = (d : Int) + (2 : Int) ^ r := by rw [Nat.one_mul, Int.natCast_add, Int.natCast_pow]; rfl
theorem or_bit (d r : Nat) (hd : d < 2 ^ r) (hr : r < 30) : bits .or .u64 (d : Int) (IntKind.u64.wrap (1 * (2 : Int) ^ r)) = ((d + 1 * 2 ^ r : Nat) : Int) := by
  have h1 : 2 ^ r < 2 ^ 30 := Nat.pow_lt_pow_right (by decide) hr
  rw [show (1 : Int) * (2 : Int) ^ r = ((1 * 2 ^ r : Nat) : Int) by rw [Int.natCast_mul, Int.natCast_pow]; rfl, IntWalk.u64_in _ (by omega), u64_or_nat _ _ (by omega) (by omega), Nat.or_comm, nat_join r _ _ (by rw [Nat.one_mul]; exact Nat.mod_self _) hd, Nat.add_comm]

set_option maxHeartbeats 1000000 in
theorem ref_Read (s : ByteArray) (W : World) (hs : s.size ≤ 33) : Calls Try.prog 31 #[.string s] W fun e w' => e = .returned (.agg (nine (bytesNat s.data.toList))) ∧ Below W.heap.size W w' := by
  obtain ⟨n0, hn0⟩ : ∃ n0, bytesNat s.data.toList = n0 := ⟨_, rfl⟩
  have hlt : n0 < 2 ^ (8 * s.size) := by
    rw [← hn0]
    have := bytesNat_lt s.data.toList
    rwa [show s.data.toList.length = s.size from by simp, show (256 : Nat) = 2 ^ 8 from rfl, ← Nat.pow_mul] at this
  have HLT := hid hlt
  have HN0 := hid hn0
  clear hlt hn0
  go_enter Try.func31, Try.ntmps31
  go_wp2_with fail
  obtain ⟨N, hN⟩ : ∃ N, N = W.heap.size := ⟨_, rfl⟩
  rw [← hN]
  have HN := hid hN
  go_loopw [4] (fun i wr => ∃ k : Nat, k ≤ 8 * s.size ∧ i = .int .i64 (k : Int) ∧ wr.heap[N]? = some (.cells (nine 0) 30 (0, 0)) ∧ wr.heap[N + 1]? = some (.cells (ints .u64 (digs B30 (n0 % 2 ^ k) 9)) 30 (0, 0)) ∧ Below W.heap.size W wr) (fun i _ => (8 * s.size - intOf i).toNat)
  case atStart => exact ⟨0, by omega, rfl, alloc_old (alloc_at' hN _), by rw [Nat.pow_zero, Nat.mod_one]; exact alloc_at' (by simp [hN]) _, below_alloc (below_new _) _⟩
  case round =>
    clear hN
    obtain ⟨k, hk, rfl, rZ, rC, rb⟩ := hrel
    have RZ := hid rZ
    have RBE := hid rb
    clear rZ rb
    have hsi : (s.size : Int) ≤ 33 := by omega
    by_cases hkl : k < 8 * s.size
    · have hkd : decide ((k : Int) < 8 * (s.size : Int)) = true := decide_eq_true (by omega)
      have hml : k / 8 < s.size := by omega
      have hi0 : 0 ≤ (k : Int) / 8 := by omega
      have hi1 : (k : Int) / 8 < s.size := by omega
      have hi2 : ((k : Int) / 8).toNat = k / 8 := by omega
      have hbit := bit_of_bytes s.data.toList k (by simp; omega)
      have hg : s.data.toList.getD (k / 8) 0 = s[k / 8] := by simp [hml]; rfl
      rw [HN0.out, hg] at hbit
      have hbyte := and1_shr8 s[k / 8].toNat (k % 8) s[k / 8].toNat_lt
      rw [← hbit] at hbyte
      obtain ⟨bit, hbt⟩ : ∃ bit, n0 / 2 ^ k % 2 = bit := ⟨_, rfl⟩
      have hb1 : bit < 2 := by omega
      have hmb := mod_bit n0 k
      rw [hbt] at hbyte hmb
      obtain ⟨hst, hglt⟩ := bit_step (w := 30) (n := n0 % 2 ^ k) (b := bit) (k := k) (m := 9) (by decide) (Nat.mod_lt _ (Nat.two_pow_pos _)) hb1 (by omega)
      rw [← hmb, ← B30_pow] at hst
      rw [← B30_pow] at hglt
      have HST := hid hst
      have hj0 : 0 ≤ (k : Int) / 30 := by omega
      have hj1 : (k : Int) / 30 < 9 := by omega
      have hj2 : ((k : Int) / 30).toNat = k / 30 := by omega
      have cj := ints_cell rC (j := k / 30) (by rw [digs_length]; omega)
      have hf := free_at rC
      obtain ⟨c, hc⟩ : ∃ c, digs B30 (n0 % 2 ^ k) 9 = c := ⟨_, rfl⟩
      obtain ⟨d, hd⟩ : ∃ d, c.getD (k / 30) 0 = d := ⟨_, rfl⟩
      rw [hc] at HST hglt rC cj
      rw [hd] at HST hglt cj
      have RC := hid rC
      have hd' := hid hd
      clear hbt hbit hmb hst hc hd rC
      have hor := or_bit d (k % 30) hglt (Nat.mod_lt _ (by decide))
      rw [Int.one_mul] at hor
      obtain rfl | rfl : bit = 0 ∨ bit = 1 := by omega
      · have hby : (bits .and .u8 ((s[k / 8].toNat : Int) / (2 : Int) ^ (k % 8)) 1 == 1) = false := by rw [hbyte]; rfl
        clear hbyte hor
        go_wp2_with fail
        have hcd : c.set (k / 30) d = c := by rw [← hd'.out]; exact set_getD c _
        have hst : digs B30 (n0 % 2 ^ (k + 1)) 9 = c := by rw [HST.out, Nat.zero_mul, Nat.add_zero]; exact hcd
        exact ⟨⟨k + 1, by omega, by go_num, RZ.out, by rw [hst]; exact RC.out, RBE.out⟩, by simp [intOf]; omega⟩
      · have hby : (bits .and .u8 ((s[k / 8].toNat : Int) / (2 : Int) ^ (k % 8)) 1 == 1) = true := by rw [hbyte]; rfl
        clear hbyte
        go_wp2_with fail
        refine ⟨⟨k + 1, by omega, by go_num, at_setCell_other RZ.out (by simp) _, ?_, RBE.out.setCell (by have := HN.out; simp; omega) _⟩, by simp [intOf]; omega⟩
        rw [HST.out, ← cast_bit]
        exact ints_store RC.out _ _
    · have hkd : decide ((k : Int) < 8 * (s.size : Int)) = false := decide_eq_false (by omega)
      have hk9 : k = 8 * s.size := by omega
      rw [hk9, Nat.mod_eq_of_lt HLT.out] at rC
      have gC : hget wr (N + 1) = some (.cells (nine n0) 30 (0, 0)) := rC
      have gZ : hget wr N = some (.cells (nine 0) 30 (0, 0)) := RZ.out
      have lZ := hget_lt gZ
      clear rC RZ hk9
      go_wp2_with fail
      refine bodyPost_ret (v := .agg (nine n0)) (results_cell_row Try.results31 _ _ (N) 30 (nine n0) (0, 0) _ (by rfl) (by rw [← hget_eq]; go_simp) Try.underlying30 rfl (by rw [info_Num]; go_simp)) rfl ?_
      have hWN := HN.out
      exact ⟨by rw [HN0.out], by repeat (first | exact Below.refl _ _ | exact below_new _ | exact RBE.out | assumption | refine Below.drew ?_ | refine Below.drewN ?_ _ | refine below_alloc ?_ _ | refine below_blk' ?_ (by omega) _)⟩


/-- What a sum of rows is. -/
theorem mW_of {l : List Nat} (h : All 2147483648 l) : All mW l := h.mono (by decide)

set_option maxHeartbeats 1000000 in
theorem ref_Of (s : ByteArray) (W : World) (hs : s.size ≤ 33) : Calls Try.prog 10 #[.string s] W fun e w' => e = .returned (.agg (nine (bytesNat s.data.toList % pP))) ∧ Below W.heap.size W w' := by
  have hrd := hid (fun w => ref_Read s w hs)
  have hlt : bytesNat s.data.toList < 29642774844752946028434172162224104410437116074403984394101141506025761187823616 := by
    have := bytesNat_lt s.data.toList
    rw [show s.data.toList.length = s.size from by simp] at this
    exact Nat.lt_of_lt_of_le this (by rw [show (29642774844752946028434172162224104410437116074403984394101141506025761187823616 : Nat) = 256 ^ 33 by decide]; exact Nat.pow_le_pow_right (by decide) hs)
  obtain ⟨n0, hn0⟩ : ∃ n0, bytesNat s.data.toList = n0 := ⟨_, rfl⟩
  rw [hn0] at hrd hlt
  have HN0 := hid hn0
  have hv9 : val B30 (digs B30 n0 9) = n0 := val_nine (by omega)
  have hall := digs_all (B := B30) (by decide) n0 9
  have hl9 := digs_length (B := B30) n0 9
  have HRD := hrd.out
  unfold nine at HRD
  obtain ⟨c, hc⟩ : ∃ c, digs B30 n0 9 = c := ⟨_, rfl⟩
  simp only [hc] at HRD
  rw [hc] at hv9 hall hl9
  have HR := hid HRD
  have hsc : (ints .u64 c).size = 9 := by rw [ints_size, hl9]
  have hoc : ones (ints .u64 c) = true := rows_one _ _
  have HV := hid hv9
  clear hn0 hrd hc HRD hv9
  go_enter Try.func10, Try.ntmps10
  go_upto_region 2 with (fail)
  obtain ⟨w1, hw1⟩ : ∃ w1, (W.alloc (.cells (nine 0) 30)).alloc (.cells (ints .u64 [0, 0, 0, 0, 0, 0, 0, 0, 0, 0, 0, 0, 0, 0, 0, 0, 0, 0, 0]) 57) = w1 := ⟨_, rfl⟩
  obtain ⟨N, hN⟩ : ∃ N, W.heap.size = N := ⟨_, rfl⟩
  have fZ : hget w1 N = some (.cells (nine 0) 30 (0, 0)) := by rw [← hw1, ← hN]; exact alloc_old (alloc_at _ _)
  have fT : hget w1 (N + 1) = some (.cells (ints .u64 [0, 0, 0, 0, 0, 0, 0, 0, 0, 0, 0, 0, 0, 0, 0, 0, 0, 0, 0]) 57 (0, 0)) := by rw [← hw1, ← hN]; exact alloc_at' (by simp) _
  have b1 : Hid (Below W.heap.size W w1) := by rw [← hw1]; repeat (first | exact Below.refl _ _ | exact below_new _ | assumption | refine Below.drew ?_ | refine Below.drewN ?_ _ | refine below_alloc ?_ _)
  change Code.wp _ _ _ _ ((W.alloc (.cells (nine 0) 30)).alloc (.cells (ints .u64 [0, 0, 0, 0, 0, 0, 0, 0, 0, 0, 0, 0, 0, 0, 0, 0, 0, 0, 0]) 57))
  rw [hw1, hN]
  have HN := hid hN
  clear hw1 hN
  go_wp2_with fail
  refine (HR.out _).mono ?_
  rintro e w2 ⟨rfl, hb2⟩
  have kZ := Kept.on (kept (b := N) (o := .cells (nine 0) 30 (0, 0)) (by go_simp)) hb2
  have kT := Kept.on (kept (b := N + 1) (o := .cells (ints .u64 [0, 0, 0, 0, 0, 0, 0, 0, 0, 0, 0, 0, 0, 0, 0, 0, 0, 0, 0]) 57 (0, 0)) (by go_simp)) hb2
  have b2 : Hid (Below W.heap.size W w2) := below_to (by repeat (first | exact Below.refl _ _ | exact below_new _ | exact b1.out | assumption | refine Below.drew ?_ | refine Below.drewN ?_ _ | refine below_alloc ?_ _ | refine below_blk' ?_ (by omega) _)) hb2
  clear hb2
  try clear gZ lZ nZ mZ
  obtain ⟨gZ, lZ, nZ, mZ⟩ := kZ
  try clear gT lT nT mT
  obtain ⟨gT, lT, nT, mT⟩ := kT
  clear b1
  clear fZ fT
  go_wp2_with fail
  obtain ⟨X, hX⟩ : ∃ X, w2.heap.size = X := ⟨_, rfl⟩
  obtain ⟨w3, hw3⟩ : ∃ w3, w2.alloc (.cells (ints .u64 c) 30) = w3 := ⟨_, rfl⟩
  have fZ : w3.heap[N]? = some (.cells (nine 0) 30 (0, 0)) := by rw [← hw3]; exact alloc_old gZ
  have fT : w3.heap[N + 1]? = some (.cells (ints .u64 [0, 0, 0, 0, 0, 0, 0, 0, 0, 0, 0, 0, 0, 0, 0, 0, 0, 0, 0]) 57 (0, 0)) := by rw [← hw3]; exact alloc_old gT
  have fC : w3.heap[X]? = some (.cells (ints .u64 c) 30 (0, 0)) := by rw [← hw3, ← hX]; exact alloc_at _ _
  have b3 : Hid (Below W.heap.size W w3) := by rw [← hw3]; exact below_alloc b2.out _
  have hNX : N + 1 < X := by rw [← hX]; exact lT
  rw [hw3, hX]
  clear hw3 hX gZ gT lZ lT nZ nT mZ mT b2
  go_loopw [5] (fun i wr => ∃ (k : Nat) (t : List Nat), k ≤ 9 ∧ i = .int .i64 (k : Int) ∧ t.length = 19 ∧ All 2147483648 t ∧ val B30 t = val B30 (c.take k) ∧ (∀ m, k ≤ m → t.getD m 0 = 0) ∧ wr.heap[N]? = some (.cells (nine 0) 30 (0, 0)) ∧ wr.heap[N + 1]? = some (.cells (ints .u64 t) 57 (0, 0)) ∧ wr.heap[X]? = some (.cells (ints .u64 c) 30 (0, 0)) ∧ Below W.heap.size W wr) (fun i _ => (9 - intOf i).toNat)
  case atStart => exact ⟨0, [0, 0, 0, 0, 0, 0, 0, 0, 0, 0, 0, 0, 0, 0, 0, 0, 0, 0, 0], by omega, rfl, rfl, by exact all_replicate 19 (by decide), by simp [val], fun m _ => by (match m with | 0 | 1 | 2 | 3 | 4 | 5 | 6 | 7 | 8 | 9 | 10 | 11 | 12 | 13 | 14 | 15 | 16 | 17 | 18 => rfl | m + 19 => simp), fZ, fT, fC, b3.out⟩
  case round =>
    clear fZ fT fC b3
    obtain ⟨k, t, hk, rfl, htl, hta, hv, hz, qZ, qT, qC, qb⟩ := hrel
    have HVV := hid hv
    have HZZ := hid hz
    have QZ := hid qZ
    have QBE := hid qb
    clear hv hz qZ qb
    by_cases hk9 : k < 9
    · have hkd : decide ((k : Int) < 9) = true := decide_eq_true (by omega)
      have cj := ints_cell qC (j := k) (by omega)
      have ck := ints_cell qT (j := k) (by omega)
      have hf := free_at qT
      have hi0 : 0 ≤ (k : Int) := by omega
      have hi1 : (k : Int) < 19 := by omega
      have hi2 : (k : Int) < 9 := by omega
      have hx1 : c.getD k 0 < 1073741824 := hall.getD (by omega)
      obtain ⟨x, hx⟩ : ∃ x, c.getD k 0 = x := ⟨_, rfl⟩
      rw [hx] at cj hx1
      have HX := hid hx
      have QT := hid qT
      have QC := hid qC
      clear hx qT qC
      go_wp2_with fail
      refine ⟨⟨k + 1, t.set k x, by omega, by go_num, by simp [htl], All.set hta _ (by omega), ?_, fun m hm => ?_, at_setCell_other QZ.out (by simp) _, ints_store QT.out _ _, at_setCell_other QC.out (by simp; omega) _, QBE.out.setCell (by have := HN.out; simp; omega) _⟩, by simp [intOf]; omega⟩
      · have h1 := val_set (B := B30) (l := t) (j := k) (by omega) x
        rw [HZZ.out k (Nat.le_refl _), Nat.zero_mul, Nat.add_zero, HVV.out] at h1
        rw [h1, val_take_succ c k (by omega), HX.out]
      · have h0 := HZZ.out m (by omega); simp only [List.getD_eq_getElem?_getD] at h0 ⊢; rw [List.getElem?_set_ne (by omega)]; exact h0
    · have hkd : decide ((k : Int) < 9) = false := decide_eq_false (by omega)
      have hk10 : k = 9 := by omega
      have hv := HVV.out
      rw [hk10, List.take_of_length_le (by omega), HV.out] at hv
      have hst : (ints .u64 t).size = 19 := by rw [ints_size, htl]
      have hot : ones (ints .u64 t) = true := rows_one _ _
      have hrr := hid (fun w => ref_reduce t w htl (mW_of hta) (by rw [hv]; exact Nat.lt_trans hlt (by decide)))
      rw [hv] at hrr
      have gT : hget wr (N + 1) = some (.cells (ints .u64 t) 57 (0, 0)) := qT
      have gZ : hget wr N = some (.cells (nine 0) 30 (0, 0)) := QZ.out
      obtain ⟨z, hz⟩ : ∃ z, n0 % pP = z := ⟨_, rfl⟩
      rw [hz] at hrr
      have HZ := hid hz
      clear qT qC QZ hv hk10 HVV HZZ hz hta
      go_wp2_with fail
      refine (hrr.out _).mono ?_
      rintro e w4 ⟨rfl, hb4⟩
      have kZ := Kept.on (kept (b := N) (o := .cells (nine 0) 30 (0, 0)) (by go_simp)) hb4
      have b4 : Hid (Below W.heap.size W w4) := below_to (by repeat (first | exact Below.refl _ _ | exact below_new _ | exact QBE.out | assumption | refine Below.drew ?_ | refine Below.drewN ?_ _ | refine below_alloc ?_ _ | refine below_blk' ?_ (by omega) _)) hb4
      clear hb4
      try clear gZ lZ nZ mZ
      obtain ⟨gZ, lZ, nZ, mZ⟩ := kZ
      clear QBE
      clear gT
      go_wp2_with fail
      refine bodyPost_ret (v := .agg (nine z)) (results_cell_row Try.results10 _ _ (N) 30 (nine z) (0, 0) _ (by rfl) (by rw [← hget_eq]; go_simp) Try.underlying30 rfl (by rw [info_Num]; go_simp)) rfl ?_
      have hWN := HN.out
      exact ⟨by rw [HN0.out, HZ.out], by repeat (first | exact Below.refl _ _ | exact below_new _ | exact b4.out | assumption | refine Below.drew ?_ | refine Below.drewN ?_ _ | refine below_alloc ?_ _ | refine below_blk' ?_ (by omega) _)⟩

end Go.Proofs.Ytoaihbmicdbaiaa
