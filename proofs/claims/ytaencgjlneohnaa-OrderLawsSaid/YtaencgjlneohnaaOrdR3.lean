/- The walks of the document's numbers: Order, Of. -/
import Derived.Test.YtaencgjlneohnaaOrdR2
import Derived.Test.YtaencgjlneohnaaTWO
namespace Go.Proofs.Ytaencgjlneohnaa
open Go.RowKit DG

section
variable {ops : Array Oper} {rest : List Oper} {op : Oper} {a : Act} {w : World} {Q : Exit → Act → World → Prop}
theorem wp_build (hgd : op.guard = none) (t : TypeId) (parts : Array (Nat × Operand)) (ho : op.op = .build t parts) (cells : Array Value) (h : Try.prog.built t (parts.map fun (i, x) => (i, a.eval x)).toList = some cells)
    (k : wpList Try.prog ops Q rest (a.put op.dst (.agg cells)) w) : wpList Try.prog ops Q (op :: rest) a w :=
  wpList_plain hgd fun _ hK => by
    unfold Oper.wp execOp
    simp only [ho, Sem.run_bind, Sem.run_pure, Result.andThen_ok, run_build w t _ cells h]
    exact hK _ _ k
end

theorem ordL_row : digs 256 ordL 32 = [237, 211, 245, 92, 26, 99, 18, 88, 214, 156, 247, 162, 222, 249, 222, 20, 0, 0, 0, 0, 0, 0, 0, 0, 0, 0, 0, 0, 0, 0, 0, 16] := by decide +kernel

theorem ref_Order (W : World) : Calls Try.prog 18 #[] W fun e w' => e = .returned (.agg (ints .u8 (digs 256 ordL 32))) ∧ Below W.heap.size W w' := by
  rw [ordL_row]
  go_enter Try.func18, Try.ntmps18
  go_upto_region 1 with (fail)
  refine wp_region_list ?_
  refine wp_build (by rfl) _ _ (by rfl) (ints .u8 [237, 211, 245, 92, 26, 99, 18, 88, 214, 156, 247, 162, 222, 249, 222, 20, 0, 0, 0, 0, 0, 0, 0, 0, 0, 0, 0, 0, 0, 0, 0, 16]) (by kernel_rfl) ?_
  refine wp_store_num (by rfl) _ _ (by rfl) (by rfl) (by rfl) (by rfl) (alloc_at _ _) (by rfl) ?_
  have RN := hid (blk_heap (w := W.alloc (.cells (ints .u8 (List.replicate 32 0)) 37)) (b := W.heap.size) (o := .cells (ints .u8 [237, 211, 245, 92, 26, 99, 18, 88, 214, 156, 247, 162, 222, 249, 222, 20, 0, 0, 0, 0, 0, 0, 0, 0, 0, 0, 0, 0, 0, 0, 0, 16]) 37 (0, 0)) (lt_blk (alloc_at _ _)))
  go_wp2_with fail
  refine bodyPost_ret (v := .agg (ints .u8 [237, 211, 245, 92, 26, 99, 18, 88, 214, 156, 247, 162, 222, 249, 222, 20, 0, 0, 0, 0, 0, 0, 0, 0, 0, 0, 0, 0, 0, 0, 0, 16])) (results_cell_row Try.results18 _ _ (W.heap.size) _ _ _ _ (by rfl) RN.out Try.underlying37 rfl (by rw [info_Num]; rfl)) rfl ⟨rfl, below_blk' (below_new _) (Nat.le_refl _) _⟩

/-- One digit of doubling. -/
theorem dbl_step {B : Nat} {c l : List Nat} {k cr cr' d bit : Nat} (hk : k < c.length) (hl : l.length = c.length) (hd : c.drop k = l.drop k)
    (h : val B c + cr * B ^ k = val B l + val B (l.take k) + bit) (hx : d + cr' * B = 2 * c.getD k 0 + cr) :
    val B (c.set k d) + cr' * B ^ (k + 1) = val B l + val B (l.take (k + 1)) + bit := by
  have h1 := val_set (B := B) hk d
  have hkl : k < l.length := by omega
  have he : c.getD k 0 = l.getD k 0 := by
    have := congrArg (fun (m : List Nat) => m.getD 0 0) hd
    simpa [List.getD_eq_getElem?_getD] using this
  have h2 : val B (l.take (k + 1)) = val B (l.take k) + l.getD k 0 * B ^ k := by
    rw [List.take_succ_eq_append_getElem hkl, val_append, List.length_take, Nat.min_eq_left (by omega), getD_at hkl]
    simp [val, Nat.mul_comm]
  have h3 : (d + cr' * B) * B ^ k = (2 * c.getD k 0 + cr) * B ^ k := by rw [hx]
  rw [Nat.add_mul, Nat.add_mul, Nat.mul_assoc, ← Nat.pow_succ', Nat.succ_eq_add_one, Nat.two_mul, Nat.add_mul] at h3
  rw [h2, ← he]
  omega
theorem dbl_end {c : List Nat} {cr m : Nat} (hc : All 256 c) (hn : c.length = 32) (hm : m < ordL) (b : Nat) (hb : b ≤ 1) (h : val 256 c + cr * 256 ^ 32 = m + m + b) : c = digs 256 (2 * m + b) 32 := by
  have hr : cr = 0 := by
    rcases Nat.eq_zero_or_pos cr with h0 | h0
    · exact h0
    · have h1 : 1 * 256 ^ 32 ≤ cr * 256 ^ 32 := Nat.mul_le_mul_right _ h0
      have h2 : 2 * ordL < 256 ^ 32 := by decide
      omega
  subst hr
  have hv : val 256 c = 2 * m + b := by omega
  rw [← hv, ← hn, digs_val hc]

theorem and1_shr8 (x r : Nat) (hx : x < 256) : bits .and .u8 ((x : Int) / (2 : Int) ^ r) 1 = ((x / 2 ^ r % 2 : Nat) : Int) := by
  have e : ((x : Int) / (2 : Int) ^ r) = ((x / 2 ^ r : Nat) : Int) := by rw [Int.natCast_ediv, Int.natCast_pow]; rfl
  have hle : x / 2 ^ r ≤ x := Nat.div_le_self _ _
  rw [e, show (1 : Int) = ((1 : Nat) : Int) from rfl, u8_and_nat _ _ (by omega) (by decide), nat_mask1]
theorem bit_of_bytes (l : List UInt8) (m : Nat) (h : m < 8 * l.length) : bytesNat l / 2 ^ m % 2 = (l.getD (m / 8) 0).toNat / 2 ^ (m % 8) % 2 := by
  have := bit_digit (w := 8) (l := l.map (·.toNat)) (bytes_all l) m (by decide) (by simpa using h)
  unfold bytesNat
  rw [show (256 : Nat) = 2 ^ 8 from rfl, this]
  have hj : m / 8 < l.length := by omega
  simp [hj]
theorem dbl_byte (x c : Nat) (hx : x < 256) (hc : c ≤ 1) : bits .or .u8 ((x : Int) * 2 % 256) (c : Int) = (((2 * x + c) % 256 : Nat) : Int) := by
  rw [show ((x : Int) * 2 % 256) = ((2 * x % 256 : Nat) : Int) by omega, u8_or_nat _ _ (by omega) (by omega), nat_join 1 _ _ (by omega) (by omega)]
  omega

theorem drop_set_succ {c l : List Nat} {k d : Nat} (h : c.drop k = l.drop k) : (c.set k d).drop (k + 1) = l.drop (k + 1) := by
  have h2 : c.drop (k + 1) = l.drop (k + 1) := by rw [← List.drop_drop, ← List.drop_drop, h]
  rw [List.drop_set, if_pos (by omega), h2]
theorem range_below {w w' : World} {b : Nat} {cs : List Value} (h : w.rangeAt b 0 cs) (hb : b < w.heap.size) (hB : Below w.heap.size w w') : w'.rangeAt b 0 cs := fun j v hv => (hB.cell (p := ⟨b, 0 + j, none⟩) hb).trans (h j v hv)

theorem keepS {W1 w1 w2 : World} {b : Nat} {cs : List Value} (h : w1.rangeAt b 0 cs) (hB : Below W1.heap.size W1 w1) (hlt : b < W1.heap.size) (hb : Below w1.heap.size w1 w2) : w2.rangeAt b 0 cs ∧ Below W1.heap.size W1 w2 :=
  ⟨range_below h (Nat.lt_of_lt_of_le hlt hB.size) hb, below_to hB hb⟩

set_option maxHeartbeats 1000000 in
theorem ref_Of (s : ByteArray) (W : World) (hmax : 8 * s.size ≤ 9223372036854775807) :
    Calls Try.prog 14 #[.string s] W fun e w' => e = .returned (.agg (ints .u8 (digs 256 (bytesNat s.data.toList % ordL) 32))) ∧ Below W.heap.size W w' := by
  obtain ⟨n0, hn0⟩ : ∃ n0, bytesNat s.data.toList = n0 := ⟨_, rfl⟩
  rw [hn0]
  have HN0 := hid hn0
  clear hn0
  go_enter Try.func14, Try.ntmps14
  go_wp2_with fail
  obtain ⟨N, hN⟩ : ∃ N, N = W.heap.size := ⟨_, rfl⟩
  rw [← hN]
  have HN := hid hN
  have hz : #[.int .u8 0, .int .u8 0, .int .u8 0, .int .u8 0, .int .u8 0, .int .u8 0, .int .u8 0, .int .u8 0, .int .u8 0, .int .u8 0, .int .u8 0, .int .u8 0, .int .u8 0, .int .u8 0, .int .u8 0, .int .u8 0, .int .u8 0, .int .u8 0, .int .u8 0, .int .u8 0, .int .u8 0, .int .u8 0, .int .u8 0, .int .u8 0, .int .u8 0, .int .u8 0, .int .u8 0, .int .u8 0, .int .u8 0, .int .u8 0, .int .u8 0, .int .u8 0] = ints .u8 (List.replicate 32 0) := rfl
  rw [hz]
  go_loopw [4] (fun i wr => ∃ k : Nat, k ≤ 8 * s.size ∧ i = .int .i64 ((k : Int) - 1) ∧
    wr.heap[N + 1]? = some (.cells (ints .u8 (digs 256 (n0 / 2 ^ k % ordL) 32)) 37 (0, 0)) ∧ wr.heap[N]? = some (.cells (ints .u8 (List.replicate 32 0)) 37 (0, 0)) ∧ Below W.heap.size W wr) (fun i _ => (intOf i + 1).toNat)
  case atStart =>
    refine ⟨8 * s.size, Nat.le_refl _, by simp, ?_, alloc_old (alloc_at' hN _), below_alloc (below_new _) _⟩
    have hlt := bytesNat_lt s.data.toList
    rw [HN0.out, show s.data.toList.length = s.size from by simp, show (256 : Nat) = 2 ^ 8 from rfl, ← Nat.pow_mul] at hlt
    rw [Nat.div_eq_of_lt hlt, Nat.zero_mod]
    exact alloc_at' (by simp [hN]) _
  case round =>
    clear hN hz
    obtain ⟨k, hk, rfl, rR, rZ, rb⟩ := hrel
    have RZ := hid rZ
    have RBE := hid rb
    clear rZ rb
    match k with
    | 0 =>
      have hkd : decide (((0 : Nat) : Int) - 1 ≥ 0) = false := decide_eq_false (by omega)
      have hd0 : digs 256 (n0 / 2 ^ 0 % ordL) 32 = digs 256 (n0 % ordL) 32 := by rw [Nat.pow_zero, Nat.div_one]
      rw [hd0] at rR
      have hNle : W.heap.size ≤ N := by have := HN.out; omega
      go_upto_region 14 with (fail)
      refine wp_region_list ?_
      refine wp_load_num (l := digs 256 (n0 % ordL) 32) (by rfl) _ (by rfl) (by rfl) (by rw [digs_length]) (b := N + 1) (by exact rR) ?_
      refine wp_store_num (l := digs 256 (n0 % ordL) 32) (by rfl) _ _ (by rfl) (by rfl) (by rfl) (by rw [digs_length]) (by exact RZ.out) (by simp [ints_size]) ?_
      have RN := hid (blk_heap (o := .cells (ints .u8 (digs 256 (n0 % ordL) 32)) 37 (0, 0)) (lt_blk RZ.out))
      go_wp2_with fail
      exact bodyPost_ret (v := .agg (ints .u8 (digs 256 (n0 % ordL) 32))) (results_cell_row Try.results14 _ _ N _ _ _ _ (by rfl) RN.out Try.underlying37 rfl (by rw [info_Num, ints_size, digs_length])) rfl ⟨rfl, below_blk' RBE.out hNle _⟩
    | m + 1 =>
      rw [show ((m + 1 : Nat) : Int) - 1 = (m : Int) from by omega]
      have hkd : decide ((m : Int) ≥ 0) = true := decide_eq_true (by omega)
      have RR := hid rR
      clear rR
      have hi0 : 0 ≤ (m : Int) / 8 := by omega
      have hi1 : (m : Int) / 8 < s.size := by omega
      have hi2 : ((m : Int) / 8).toNat = m / 8 := by omega
      have hml : m / 8 < s.size := by omega
      have hbit := bit_of_bytes s.data.toList m (by simp; omega)
      have hg : s.data.toList.getD (m / 8) 0 = s[m / 8] := by simp [hml]; rfl
      rw [HN0.out, hg] at hbit
      have hbyte := and1_shr8 s[m / 8].toNat (m % 8) s[m / 8].toNat_lt
      rw [← hbit] at hbyte
      have HBYTE := hid hbyte
      clear hbit hg hbyte
      go_wp2_with fail
      rw [HBYTE.out]
      obtain ⟨bit, hbt⟩ : ∃ bit, n0 / 2 ^ m % 2 = bit := ⟨_, rfl⟩
      have hb1 : bit ≤ 1 := by omega
      rw [hbt]
      have HBT := hid hbt
      clear hbt HBYTE
      obtain ⟨l, hl⟩ : ∃ l, digs 256 (n0 / 2 ^ (m + 1) % ordL) 32 = l := ⟨_, rfl⟩
      have hvl := val_digs (B := 256) (n0 / 2 ^ (m + 1) % ordL) 32
      rw [Nat.mod_eq_of_lt (a := n0 / 2 ^ (m + 1) % ordL) (b := 256 ^ 32) (Nat.lt_trans (Nat.mod_lt _ (by decide)) (by decide)), hl] at hvl
      have hll : l.length = 32 := by rw [← hl, digs_length]
      have hla : All 256 l := by rw [← hl]; exact digs_all (by decide) _ _
      have rR := RR.out
      rw [hl] at rR
      have RR2 := hid rR
      have HVL := hid hvl
      have HLL := hid hll
      clear hl rR RR hvl hll
      go_loopw [6, 5] (fun i cy wq => ∃ (k cr : Nat) (c : List Nat), k ≤ 32 ∧ i = .int .i64 (k : Int) ∧ cy = .int .u8 (cr : Int) ∧ cr ≤ 1 ∧ c.length = 32 ∧ All 256 c ∧ c.drop k = l.drop k ∧ val 256 c + cr * 256 ^ k = val 256 l + val 256 (l.take k) + bit ∧
        wq.heap[N + 1]? = some (.cells (ints .u8 c) 37 (0, 0)) ∧ wq.heap[N]? = some (.cells (ints .u8 (List.replicate 32 0)) 37 (0, 0)) ∧ Below W.heap.size W wq) (fun i _ _ => (32 - intOf i).toNat)
      case atStart => exact ⟨0, bit, l, by omega, rfl, rfl, hb1, HLL.out, hla, rfl, by simp [val], RR2.out, RZ.out, RBE.out⟩
      case round =>
        obtain ⟨k, cr, c, hk, rfl, rfl, hcr, hcl, hca, hcd, hv, qR, qZ, qb⟩ := hrel
        have HV := hid hv
        have HCD := hid hcd
        have HCL := hid hcl
        have QZ := hid qZ
        have QBE := hid qb
        clear hv hcd qZ qb
        by_cases hk32 : k < 32
        · have hkd : decide ((k : Int) < 32) = true := decide_eq_true (by omega)
          have hj0 : 0 ≤ (k : Int) := by omega
          have hj1 : (k : Int) < 32 := by omega
          have cc := ints_cell qR (j := k) (by omega)
          have hx := hca.getD (j := k) (by omega)
          have hfa := free_at qR
          have QR := hid qR
          clear qR
          generalize hxa : c.getD k 0 = x at *
          have HX := hid hxa
          have hdb := dbl_byte x cr hx hcr
          have HDB := hid hdb
          clear hxa hcl hdb
          go_wp2_with fail
          rw [HDB.out]
          have hst := dbl_step (B := 256) (c := c) (l := l) (k := k) (cr := cr) (cr' := x / 128) (d := (2 * x + cr) % 256) (bit := bit) (by rw [HCL.out]; omega) (HLL.out.trans HCL.out.symm) HCD.out HV.out (by rw [HX.out]; omega)
          have hcx : ((x : Int) / 128) = ((x / 128 : Nat) : Int) := by omega
          rw [hcx]
          exact ⟨⟨k + 1, x / 128, c.set k ((2 * x + cr) % 256), by omega, by go_num, rfl, by omega, by simp [HCL.out], All.set hca _ (by omega), drop_set_succ HCD.out, hst, ints_store QR.out _ _, at_setCell_other QZ.out (by simp) _, QBE.out.setCell (by have := HN.out; simp; omega) _⟩, by simp [intOf]; omega⟩
        · have hkd : decide ((k : Int) < 32) = false := decide_eq_false (by omega)
          have hk5 : k = 32 := by omega
          have hv := HV.out
          rw [hk5, List.take_of_length_le (by rw [HLL.out]; omega), HVL.out] at hv
          have hce := dbl_end hca hcl (Nat.mod_lt _ (by decide)) bit hb1 hv
          have HCE := hid hce
          have QR := hid qR
          have hN1 : N + 1 < wr.heap.size := lt_blk qR
          have hrow := row_range qR
          have hi37 : (Try.prog.info? 37).map (·.size) = some (c.map fun (x : Nat) => Value.int .u8 (x : Int)).length := by rw [info_Num]; simp [HCL.out]
          have hu37 := Try.underlying37
          have hl32 : (c.map fun (x : Nat) => Value.int .u8 (x : Int)).length = 32 := by simp [HCL.out]
          have hone : ∀ v ∈ (c.map fun (x : Nat) => Value.int .u8 (x : Int)), v.oneCell' = true := by
            intro v hv
            simp only [List.mem_map] at hv
            obtain ⟨x, _, rfl⟩ := hv
            rfl
          have hv2 : val 256 c = 2 * (n0 / 2 ^ (m + 1) % ordL) + bit := by
            rw [hce, val_digs]
            exact Nat.mod_eq_of_lt (by have h1 : n0 / 2 ^ (m + 1) % ordL < ordL := Nat.mod_lt _ (by decide)
                                       have h2 : 2 * ordL < 256 ^ 32 := by decide
                                       omega)
          clear hv hce hk5 qR
          go_wp2_with fail
          go_region_held3 (fun w' => w'.rangeAt (N + 1) 0 (c.map fun (x : Nat) => Value.int .u8 (x : Int)) ∧ Below wr.heap.size wr w') (first | exact ⟨by simpa using hrow, (Below.refl _ _).drew⟩ | (go_split_ands; exact keepS (by assumption) (by assumption) hN1 (by assumption)))
            (first | (go_at_call 18; refine (ref_Order _).mono ?_; rintro e w2 ⟨rfl, hb2⟩) | (go_at_call 21; refine (ref_less c _ _ hca (digs_all (by decide) _ _) (by exact HCL.out) (by rw [digs_length])).mono ?_; rintro e w3 ⟨rfl, hb3⟩))
          rename_i hH
          obtain ⟨_, hbw⟩ := hH
          clear hi37 hu37 hl32 hone hrow hb2 hb3
          have hvo : val 256 (digs 256 ordL 32) = ordL := by rw [val_digs]; decide
          rw [hvo]
          have q3 := (hbw.block _ hN1).trans QR.out
          have z3 := (hbw.block _ (lt_blk QZ.out)).trans QZ.out
          have be3 := below_to QBE.out hbw
          have hos := of_step n0 (m + 1) (by omega)
          rw [show m + 1 - 1 = m by omega, HBT.out] at hos
          have HOS := hid hos
          have Q3 := hid q3
          have Z3 := hid z3
          have BE3 := hid be3
          clear q3 z3 be3 hbw hos
          have hrl : n0 / 2 ^ (m + 1) % ordL < ordL := Nat.mod_lt _ (by decide)
          obtain ⟨R, hR⟩ : ∃ R, n0 / 2 ^ (m + 1) % ordL = R := ⟨_, rfl⟩
          rw [hR] at hrl hv2
          rw [hR]
          have HOS2 := HOS.out
          have HCE2 := HCE.out
          rw [hR] at HOS2 HCE2
          have HOS3 := hid HOS2
          have HCE3 := hid HCE2
          have HV2 := hid hv2
          clear HOS HOS2 HCE HCE2 hR hv2
          by_cases hlt : 2 * R + bit < ordL
          · have hd : (!decide (2 * R + bit < ordL)) = false := by simp [hlt]
            rw [hd]
            go_wp2_with fail
            refine ⟨⟨m, by omega, rfl, ?_, Z3.out, BE3.out⟩, by simp [intOf]⟩
            rw [← HOS3.out, Nat.mod_eq_of_lt hlt, ← HCE3.out]
            exact Q3.out
          · have hd : (!decide (2 * R + bit < ordL)) = true := by simp [hlt]
            rw [hd]
            go_wp2_with fail
            have hsum : n0 / 2 ^ m % ordL = val 256 c - val 256 (digs 256 ordL 32) := by
              rw [hvo, HV2.out, ← HOS3.out, Nat.mod_eq_sub_mod (by omega), Nat.mod_eq_of_lt (by omega)]
            have HSUM := hid hsum
            have hle : val 256 (digs 256 ordL 32) ≤ val 256 c := by rw [hvo, HV2.out]; omega
            have HLE := hid hle
            have HVO := hid hvo
            clear hsum hle hvo hlt hd
            refine wp_region_two (by rfl) (by kernel_rfl) (by kernel_rfl) (by kernel_rfl) (by kernel_rfl) ?_ ?_
            · refine wp_load_num (by rfl) _ (by rfl) (by rfl) HCL.out (b := N + 1) (by exact Q3.out) ?_
              go_wp2_with fail
              refine (ref_Order _).mono ?_
              rintro e w4 ⟨rfl, hb4⟩
              have q4 := (hb4.block (N + 1) (lt_blk Q3.out)).trans Q3.out
              have z4 := (hb4.block N (lt_blk Z3.out)).trans Z3.out
              have be4 := below_to BE3.out.drew hb4
              have Q4 := hid q4
              have Z4 := hid z4
              have BE4 := hid be4
              clear q4 z4 be4 hb4
              go_wp2_with fail
              refine (ref_minus c (digs 256 ordL 32) _ hca (digs_all (by decide) _ _) HCL.out (by rw [digs_length]) HLE.out).mono ?_
              rintro e w5 ⟨rfl, hb5⟩
              have q5 := (hb5.block (N + 1) (lt_blk Q4.out)).trans Q4.out
              have z5 := (hb5.block N (lt_blk Z4.out)).trans Z4.out
              have be5 := below_to BE4.out hb5
              have hNle : W.heap.size ≤ N + 1 := by have := HN.out; omega
              rename_i hK
              refine hK _ _ ?_
              refine wp_store_num (l := digs 256 (val 256 c - val 256 (digs 256 ordL 32)) 32) (by rfl) _ _ (by rfl) (by rfl) (by rfl) (by rw [digs_length]) (b := N + 1) (by exact q5) (by rw [ints_size, HCL.out]) ?_
              have q6 := blk_heap (o := .cells (ints .u8 (digs 256 (val 256 c - val 256 (digs 256 ordL 32)) 32)) 37 (0, 0)) (lt_blk q5)
              rw [← HSUM.out] at q6 ⊢
              have Q6 := hid q6
              have Z6 := hid ((blk_other (o := .cells (ints .u8 (digs 256 (n0 / 2 ^ m % ordL) 32)) 37 (0, 0)) (w := w5) (b := N + 1) N (by omega)).trans z5)
              have BE6 := hid (below_blk' be5 hNle (.cells (ints .u8 (digs 256 (n0 / 2 ^ m % ordL) 32)) 37 (0, 0)))
              clear q5 z5 be5 q6 hb5
              go_wp2_with fail
              exact ⟨⟨m, by omega, rfl, Q6.out, Z6.out, BE6.out⟩, by simp [intOf]⟩
            · go_wp2_with fail
              refine (ref_Order _).mono ?_
              rintro e w4 ⟨rfl, hb4⟩
              have q4 := (hb4.block (N + 1) (lt_blk Q3.out)).trans Q3.out
              have z4 := (hb4.block N (lt_blk Z3.out)).trans Z3.out
              have be4 := below_to BE3.out.drew hb4
              rename_i hK
              refine hK _ _ ?_
              refine wp_load_num (by rfl) _ (by rfl) (by rfl) HCL.out (b := N + 1) (by exact q4) ?_
              have Q4 := hid q4
              have Z4 := hid z4
              have BE4 := hid be4
              clear q4 z4 be4 hb4
              go_wp2_with fail
              refine (ref_minus c (digs 256 ordL 32) _ hca (digs_all (by decide) _ _) HCL.out (by rw [digs_length]) HLE.out).mono ?_
              rintro e w5 ⟨rfl, hb5⟩
              have q5 := (hb5.block (N + 1) (lt_blk Q4.out)).trans Q4.out
              have z5 := (hb5.block N (lt_blk Z4.out)).trans Z4.out
              have be5 := below_to BE4.out hb5
              have hNle : W.heap.size ≤ N + 1 := by have := HN.out; omega
              rename_i hK
              refine hK _ _ ?_
              refine wp_store_num (l := digs 256 (val 256 c - val 256 (digs 256 ordL 32)) 32) (by rfl) _ _ (by rfl) (by rfl) (by rfl) (by rw [digs_length]) (b := N + 1) (by exact q5) (by rw [ints_size, HCL.out]) ?_
              have q6 := blk_heap (o := .cells (ints .u8 (digs 256 (val 256 c - val 256 (digs 256 ordL 32)) 32)) 37 (0, 0)) (lt_blk q5)
              rw [← HSUM.out] at q6 ⊢
              have Q6 := hid q6
              have Z6 := hid ((blk_other (o := .cells (ints .u8 (digs 256 (n0 / 2 ^ m % ordL) 32)) 37 (0, 0)) (w := w5) (b := N + 1) N (by omega)).trans z5)
              have BE6 := hid (below_blk' be5 hNle (.cells (ints .u8 (digs 256 (n0 / 2 ^ m % ordL) 32)) 37 (0, 0)))
              clear q5 z5 be5 q6 hb5
              go_wp2_with fail
              exact ⟨⟨m, by omega, rfl, Q6.out, Z6.out, BE6.out⟩, by simp [intOf]⟩

end Go.Proofs.Ytaencgjlneohnaa
