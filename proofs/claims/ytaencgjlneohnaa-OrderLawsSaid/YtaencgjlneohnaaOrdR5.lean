/- The walk of the document's MulAdd. -/
import Derived.Test.YtaencgjlneohnaaOrdR4
namespace Go.Proofs.Ytaencgjlneohnaa
open Go.RowKit DG

@[go_sem] theorem make65 (w : World) : (Instr.makeSlice 42 (.int .i64 65) (.int .i64 65)).run Try.prog w = .ok (.slice (some ⟨w.heap.size, 0, none⟩) 65 65) (w.alloc (.cells (ints .u8 (List.replicate 65 0)) 5)) := by kernel_rfl

@[go_sem] theorem zero65 (w : World) : (zeroValue 53).run Try.prog w = .ok (.agg (ints .i64 (List.replicate 65 0))) w := by kernel_rfl
namespace DG
theorem val_take_succ2 {B : Nat} (l : List Nat) {k : Nat} (h : k < l.length) : val B (l.take (k + 1)) = val B (l.take k) + l.getD k 0 * B ^ k := by
  rw [List.take_succ_eq_append_getElem h, val_append, List.length_take, Nat.min_eq_left (by omega), getD_at h]
  simp [val, Nat.mul_comm]
theorem add_at {B : Nat} {l : List Nat} {j x : Nat} (h : j < l.length) : val B (l.set j (l.getD j 0 + x)) = val B l + x * B ^ j := by
  have := val_set (B := B) h (l.getD j 0 + x)
  rw [Nat.add_mul] at this
  omega
theorem take_set_succ {l : List Nat} {j x : Nat} (h : j < l.length) (B : Nat) : val B ((l.set j x).take (j + 1)) = val B (l.take j) + x * B ^ j := by
  rw [val_take_succ2 _ (by simpa using h)]
  congr 1
  · congr 1; exact List.take_set_of_le (Nat.le_refl _)
  · simp [h]
/-- One digit of carrying. -/
theorem carry1 {o t : List Nat} {k cr d cr' : Nat} (hk : k < o.length) (hkt : k < t.length) (h : val 256 (o.take k) + cr * 256 ^ k = val 256 (t.take k)) (hx : d + cr' * 256 = t.getD k 0 + cr) :
    val 256 ((o.set k d).take (k + 1)) + cr' * 256 ^ (k + 1) = val 256 (t.take (k + 1)) := by
  rw [take_set_succ hk, val_take_succ2 t hkt, ← h]
  have h3 : (d + cr' * 256) * 256 ^ k = (t.getD k 0 + cr) * 256 ^ k := by rw [hx]
  rw [Nat.add_mul, Nat.add_mul, Nat.mul_assoc, ← Nat.pow_succ', Nat.succ_eq_add_one] at h3
  omega
theorem All.mono {B C : Nat} {l : List Nat} (h : All B l) (hB : B ≤ C) : All C l := fun x hx => Nat.lt_of_lt_of_le (h x hx) hB
end DG

set_option maxHeartbeats 2000000 in
theorem ref_MulAdd (a b c : Nat) (W : World) (ha : a < ordL) (hb : b < ordL) (hc : c < ordL) :
    Calls Try.prog 16 #[.agg (ints .u8 (digs 256 a 32)), .agg (ints .u8 (digs 256 b 32)), .agg (ints .u8 (digs 256 c 32))] W fun e w' => e = .returned (.agg (ints .u8 (digs 256 ((a * b + c) % ordL) 32))) ∧ Below W.heap.size W w' := by
  have hL : ordL < 256 ^ 32 := by decide
  obtain ⟨la, hla⟩ : ∃ l, digs 256 a 32 = l := ⟨_, rfl⟩
  obtain ⟨lb, hlb⟩ : ∃ l, digs 256 b 32 = l := ⟨_, rfl⟩
  obtain ⟨lc, hlc⟩ : ∃ l, digs 256 c 32 = l := ⟨_, rfl⟩
  have va : val 256 la = a := by rw [← hla, val_digs]; exact Nat.mod_eq_of_lt (by omega)
  have vb : val 256 lb = b := by rw [← hlb, val_digs]; exact Nat.mod_eq_of_lt (by omega)
  have vc : val 256 lc = c := by rw [← hlc, val_digs]; exact Nat.mod_eq_of_lt (by omega)
  have la32 : la.length = 32 := by rw [← hla, digs_length]
  have lb32 : lb.length = 32 := by rw [← hlb, digs_length]
  have lc32 : lc.length = 32 := by rw [← hlc, digs_length]
  have aa : All 256 la := by rw [← hla]; exact digs_all (by decide) _ _
  have ab : All 256 lb := by rw [← hlb]; exact digs_all (by decide) _ _
  have ac : All 256 lc := by rw [← hlc]; exact digs_all (by decide) _ _
  rw [hla, hlb, hlc]
  have hsa : (ints .u8 la).size = 32 := by rw [ints_size, la32]
  have hsb : (ints .u8 lb).size = 32 := by rw [ints_size, lb32]
  have hsc : (ints .u8 lc).size = 32 := by rw [ints_size, lc32]
  have VA := hid va
  have VB := hid vb
  have VC := hid vc
  have LA := hid la32
  have LB := hid lb32
  have LC := hid lc32
  have HAB := hid (And.intro ha (And.intro hb (And.intro hc hL)))
  clear hla hlb hlc va vb vc la32 lb32 lc32 ha hb hc hL
  go_enter Try.func16, Try.ntmps16
  go_wp2_with fail
  have hz : #[.int .u8 0, .int .u8 0, .int .u8 0, .int .u8 0, .int .u8 0, .int .u8 0, .int .u8 0, .int .u8 0, .int .u8 0, .int .u8 0, .int .u8 0, .int .u8 0, .int .u8 0, .int .u8 0, .int .u8 0, .int .u8 0, .int .u8 0, .int .u8 0, .int .u8 0, .int .u8 0, .int .u8 0, .int .u8 0, .int .u8 0, .int .u8 0, .int .u8 0, .int .u8 0, .int .u8 0, .int .u8 0, .int .u8 0, .int .u8 0, .int .u8 0, .int .u8 0] = ints .u8 (List.replicate 32 0) := rfl
  rw [hz]
  clear hz hsa hsb hsc
  obtain ⟨N, hN⟩ : ∃ N, N = W.heap.size := ⟨_, rfl⟩
  rw [← hN]
  have HN := hid hN
  have hb0 : Below W.heap.size W (((((W.alloc (.cells (ints .u8 la) 37)).alloc (.cells (ints .u8 lb) 37)).alloc (.cells (ints .u8 lc) 37)).alloc (.cells (ints .u8 (List.replicate 32 0)) 37)).alloc (.cells (ints .i64 (List.replicate 65 0)) 53)) :=
    below_alloc (below_alloc (below_alloc (below_alloc (below_new _) _) _) _) _
  have HB0 := hid hb0
  clear hb0
  go_loopw [8] (fun i wr => ∃ (k : Nat) (t : List Nat), k ≤ 32 ∧ i = .int .i64 (k : Int) ∧ t.length = 65 ∧ All (65280 * (33 * k) + 1) t ∧ val 256 t = val 256 (lc.take k) + val 256 (la.take k) * b ∧
    wr.heap[N]? = some (.cells (ints .u8 la) 37 (0, 0)) ∧ wr.heap[N + 1]? = some (.cells (ints .u8 lb) 37 (0, 0)) ∧ wr.heap[N + 1 + 1]? = some (.cells (ints .u8 lc) 37 (0, 0)) ∧
    wr.heap[N + 1 + 1 + 1]? = some (.cells (ints .u8 (List.replicate 32 0)) 37 (0, 0)) ∧ wr.heap[N + 1 + 1 + 1 + 1]? = some (.cells (ints .i64 t) 53 (0, 0)) ∧ Below W.heap.size W wr) (fun i _ => (32 - intOf i).toNat)
  case atStart =>
    refine ⟨0, List.replicate 65 0, by omega, rfl, by simp, ?_, ?_, alloc_old (alloc_old (alloc_old (alloc_old (alloc_at' hN _)))), alloc_old (alloc_old (alloc_old (alloc_at' (by simp [hN]) _))), alloc_old (alloc_old (alloc_at' (by simp [hN]) _)), alloc_old (alloc_at' (by simp [hN]) _), alloc_at' (by simp [hN]) _, HB0.out⟩
    · intro x hx; rw [List.eq_of_mem_replicate hx]; decide
    · simp [val, val_replicate]
  case round =>
    clear hN
    obtain ⟨k, t, hk, rfl, htl, hta, hv, rA, rB, rC, rZ, rT, rb⟩ := hrel
    have HV := hid hv
    have RA := hid rA
    have RB := hid rB
    have RZ := hid rZ
    have RBE := hid rb
    have HTL := hid htl
    clear hv rA rB rZ rb
    by_cases hk32 : k < 32
    · have hkd : decide ((k : Int) < 32) = true := decide_eq_true (by omega)
      have hi0 : 0 ≤ (k : Int) := by omega
      have hi1 : (k : Int) < 32 := by omega
      have hi2 : (k : Int) < 65 := by omega
      have ct := ints_cell rT (j := k) (by omega)
      have cc := ints_cell rC (j := k) (by rw [LC.out]; exact hk32)
      have hx := hta.getD (j := k) (by omega)
      have hy := ac.getD (j := k) (by rw [LC.out]; exact hk32)
      have hft := free_at rT
      generalize hxa : t.getD k 0 = x at *
      generalize hyc : lc.getD k 0 = y at *
      have HX := hid hxa
      have HY := hid hyc
      have RT := hid rT
      have RC := hid rC
      clear hxa hyc rT rC htl
      go_wp2_with fail
      refine still_tail 10 (by kernel_rfl) (by kernel_rfl) ?_
      simp only [List.take_succ_cons, List.take_zero, List.drop_succ_cons, List.drop_zero]
      repeat (first | (refine wpStill_step (fun K hK => ?_); go_simp; refine hK _ ?_; clear hK K; try go_ints))
      refine wpStill_nil ?_
      have hst := add_at (B := 256) (l := t) (j := k) (x := y) (by rw [HTL.out]; omega)
      rw [HX.out] at hst
      have hst2 := ints_store RT.out k (x + y)
      have hall2 : All (65280 * (33 * k + 1) + 1) (t.set k (x + y)) := All.set (hta.mono (by omega)) _ (by omega)
      have HST := hid hst
      have HALL2 := hid hall2
      have RT2 := hid hst2
      clear hst hst2 hall2
      go_wp2_with fail
      clear ct cc hft
      have e65 := hid (Int.natCast_add x y)
      have hrowB := HN.out
      go_loopw [9] (fun i wq => ∃ (j : Nat) (u : List Nat), j ≤ 32 ∧ i = .int .i64 (j : Int) ∧ u.length = 65 ∧ All (65280 * (33 * k + 1 + j) + 1) u ∧ val 256 u = val 256 (lc.take (k + 1)) + val 256 (la.take k) * b + la.getD k 0 * val 256 (lb.take j) * 256 ^ k ∧
        wq.heap[N]? = some (.cells (ints .u8 la) 37 (0, 0)) ∧ wq.heap[N + 1]? = some (.cells (ints .u8 lb) 37 (0, 0)) ∧ wq.heap[N + 1 + 1]? = some (.cells (ints .u8 lc) 37 (0, 0)) ∧
        wq.heap[N + 1 + 1 + 1]? = some (.cells (ints .u8 (List.replicate 32 0)) 37 (0, 0)) ∧ wq.heap[N + 1 + 1 + 1 + 1]? = some (.cells (ints .i64 u) 53 (0, 0)) ∧ Below W.heap.size W wq) (fun i _ => (32 - intOf i).toNat)
      case atStart =>
        refine ⟨0, t.set k (x + y), by omega, rfl, by simp [HTL.out], HALL2.out, ?_, at_setCell_other RA.out (by simp; omega) _, at_setCell_other RB.out (by simp) _, at_setCell_other RC.out (by simp) _, at_setCell_other RZ.out (by simp) _, ?_, (RBE.out.setCell (by simp; omega) _).drew⟩
        · rw [HST.out, HV.out, val_take_succ2 lc (by rw [LC.out]; exact hk32), HY.out]
          simp [val]; omega
        · rw [← e65.out]; exact RT2.out
      case round =>
        clear hrowB
        obtain ⟨j, u, hj, rfl, hul, hua, hv, qA, qB, qC, qZ, qT, qb⟩ := hrel
        have HU := hid hv
        have QC := hid qC
        have QZ := hid qZ
        have QBE := hid qb
        have HUL := hid hul
        clear hv qC qZ qb
        by_cases hj32 : j < 32
        · have hjd : decide ((j : Int) < 32) = true := decide_eq_true (by omega)
          have hj0 : 0 ≤ (j : Int) := by omega
          have hj1 : (j : Int) < 32 := by omega
          have hs0 : 0 ≤ (k : Int) + (j : Int) := by omega
          have hs1 : (k : Int) + (j : Int) < 65 := by omega
          have hs2 : ((k : Int) + (j : Int)).toNat = k + j := by omega
          have ct := ints_cell qT (j := k + j) (by omega)
          have ca := ints_cell qA (j := k) (by rw [LA.out]; exact hk32)
          have cb := ints_cell qB (j := j) (by rw [LB.out]; exact hj32)
          have hu := hua.getD (j := k + j) (by omega)
          have hp := aa.getD (j := k) (by rw [LA.out]; exact hk32)
          have hq := ab.getD (j := j) (by rw [LB.out]; exact hj32)
          have hft := free_at qT
          generalize hua2 : u.getD (k + j) 0 = s at *
          generalize hpa : la.getD k 0 = p at *
          generalize hqa : lb.getD j 0 = q at *
          have hpq : p * q ≤ 255 * 255 := Nat.mul_le_mul (by omega) (by omega)
          have hpqi : (p : Int) * (q : Int) = ((p * q : Nat) : Int) := (Int.natCast_mul p q).symm
          have hpq0 : 0 ≤ (p : Int) * (q : Int) := by rw [hpqi]; omega
          have hpq1 : (p : Int) * (q : Int) ≤ 65025 := by rw [hpqi]; omega
          have HS := hid hua2
          have HP := hid hpa
          have HQ := hid hqa
          have QT := hid qT
          have QA := hid qA
          have QB := hid qB
          have HPQ := hid hpqi
          clear hua2 hpa hqa qT qA qB hul hpqi
          go_wp2_with fail
          refine still_tail 19 (by kernel_rfl) (by kernel_rfl) ?_
          simp only [List.take_succ_cons, List.take_zero, List.drop_succ_cons, List.drop_zero]
          repeat (first | (refine wpStill_step (fun K hK => ?_); go_simp; refine hK _ ?_; clear hK K; try go_ints))
          refine wpStill_nil ?_
          have hst := add_at (B := 256) (l := u) (j := k + j) (x := p * q) (by rw [HUL.out]; omega)
          rw [HS.out] at hst
          have hst2 := ints_store QT.out (k + j) (s + p * q)
          have hall2 : All (65280 * (33 * k + 1 + (j + 1)) + 1) (u.set (k + j) (s + p * q)) := All.set (hua.mono (by omega)) _ (by omega)
          have hsum : (s : Int) + (p : Int) * (q : Int) = ((s + p * q : Nat) : Int) := by rw [HPQ.out]; omega
          have hv2 : val 256 (u.set (k + j) (s + p * q)) = val 256 (lc.take (k + 1)) + val 256 (la.take k) * b + p * val 256 (lb.take (j + 1)) * 256 ^ k := by
            rw [hst, HU.out, val_take_succ2 lb (by rw [LB.out]; exact hj32), HQ.out, Nat.pow_add]
            generalize 256 ^ k = K
            generalize 256 ^ j = J
            generalize val 256 (lb.take j) = V
            rw [Nat.mul_add, Nat.add_mul, show p * q * (K * J) = p * (q * J) * K by rw [Nat.mul_assoc p, Nat.mul_assoc p, Nat.mul_assoc q, Nat.mul_comm J K]]
            omega
          have HV2 := hid hv2
          have HALL := hid hall2
          have QT2 := hid hst2
          have HSUM := hid hsum
          clear hst hst2 hall2 hsum hv2
          go_wp2_with fail
          rw [HSUM.out]
          exact ⟨⟨j + 1, _, by omega, by go_num, by simp [HUL.out], HALL.out, HV2.out, at_setCell_other QA.out (by simp; omega) _, at_setCell_other QB.out (by simp) _, at_setCell_other QC.out (by simp) _, at_setCell_other QZ.out (by simp) _, QT2.out, (QBE.out.setCell (by have := HN.out; simp; omega) _).drew⟩, by simp [intOf]; omega⟩
        · have hjd : decide ((j : Int) < 32) = false := decide_eq_false (by omega)
          have hj5 : j = 32 := by omega
          have hv := HU.out
          rw [hj5, List.take_of_length_le (l := lb) (by rw [LB.out]; omega), VB.out] at hv
          have hv3 : val 256 u = val 256 (lc.take (k + 1)) + val 256 (la.take (k + 1)) * b := by
            rw [hv, val_take_succ2 la (by rw [LA.out]; exact hk32), Nat.add_mul, Nat.mul_right_comm]
            omega
          have hall : All (65280 * (33 * (k + 1)) + 1) u := hua.mono (by omega)
          have HV3 := hid hv3
          have HALL := hid hall
          have QA := hid qA
          have QB := hid qB
          have QT := hid qT
          clear hv hv3 hall hj5 qA qB qT
          go_wp2_with fail
          exact ⟨⟨k + 1, u, by omega, by go_num, HUL.out, HALL.out, HV3.out, QA.out, QB.out, QC.out, QZ.out, QT.out, QBE.out⟩, by simp [intOf]; omega⟩
    · have hkd : decide ((k : Int) < 32) = false := decide_eq_false (by omega)
      have hk5 : k = 32 := by omega
      have hv := HV.out
      rw [hk5, List.take_of_length_le (l := lc) (by rw [LC.out]; omega), List.take_of_length_le (l := la) (by rw [LA.out]; omega), VC.out, VA.out] at hv
      have hall : All 68939680 t := hta.mono (by omega)
      have HVT := hid hv
      have HALL := hid hall
      have RT := hid rT
      clear hv hall hta hk5 HV rT rC HB0
      go_wp2_with fail
      obtain ⟨X, hX⟩ : ∃ X, X = wr.heap.size := ⟨_, rfl⟩
      rw [← hX]
      have hTX : N + 1 + 1 + 1 + 1 < X := by rw [hX]; exact lt_blk RT.out
      have hWX : W.heap.size ≤ X := by rw [hX]; exact RBE.out.size
      go_loopw [12, 11] (fun i cy wq => ∃ (j cr : Nat) (o : List Nat), j ≤ 65 ∧ i = .int .i64 (j : Int) ∧ cy = .int .i64 (cr : Int) ∧ cr < 68939680 ∧ o.length = 65 ∧ All 256 o ∧ val 256 (o.take j) + cr * 256 ^ j = val 256 (t.take j) ∧
        wq.heap[N + 1 + 1 + 1]? = some (.cells (ints .u8 (List.replicate 32 0)) 37 (0, 0)) ∧ wq.heap[N + 1 + 1 + 1 + 1]? = some (.cells (ints .i64 t) 53 (0, 0)) ∧ wq.heap[X]? = some (.cells (ints .u8 o) 5 (0, 0)) ∧ Below W.heap.size W wq) (fun i _ _ => (65 - intOf i).toNat)
      case atStart =>
        exact ⟨0, 0, List.replicate 65 0, by omega, rfl, rfl, by omega, by simp, by intro x hx; rw [List.eq_of_mem_replicate hx]; decide, by simp [val], alloc_old RZ.out, alloc_old RT.out, alloc_at' hX _, below_alloc RBE.out _⟩
      case round =>
        clear hX
        obtain ⟨j, cr, o, hj, rfl, rfl, hcr, hol, hoa, hv, qZ, qT, qO, qb⟩ := hrel
        have HV := hid hv
        have QZ := hid qZ
        have QBE := hid qb
        have HOL := hid hol
        clear hv qZ qb
        by_cases hj65 : j < 65
        · have hjd : decide ((j : Int) < 65) = true := decide_eq_true (by omega)
          have hj0 : 0 ≤ (j : Int) := by omega
          have hj1 : (j : Int) < 65 := by omega
          have ct := ints_cell qT (j := j) (by rw [HTL.out]; omega)
          have co := ints_cell qO (j := j) (by omega)
          have hx := HALL.out.getD (j := j) (by rw [HTL.out]; omega)
          have hf := free_at qO
          generalize hxa : t.getD j 0 = x at *
          have HX := hid hxa
          have QT := hid qT
          have QO := hid qO
          clear hxa qT qO hol
          go_wp2_with fail
          have hst := carry1 (o := o) (t := t) (k := j) (cr := cr) (d := (x + cr) % 256) (cr' := (x + cr) / 256) (by rw [HOL.out]; omega) (by rw [HTL.out]; omega) HV.out (by rw [HX.out]; omega)
          have HST := hid hst
          have e1 : (((x : Int) + (cr : Int)) / 256) = (((x + cr) / 256 : Nat) : Int) := by omega
          have e2 : (((x : Int) + (cr : Int)) % 256) = (((x + cr) % 256 : Nat) : Int) := by omega
          rw [e1, e2]
          exact ⟨⟨j + 1, (x + cr) / 256, o.set j ((x + cr) % 256), by omega, by go_num, rfl, by omega, by simp [HOL.out], All.set hoa _ (by omega), HST.out, at_setCell_other QZ.out (by simp; omega) _, at_setCell_other QT.out (by simp; omega) _, ints_store QO.out _ _, QBE.out.setCell (by simp; omega) _⟩, by simp [intOf]; omega⟩
        · have hjd : decide ((j : Int) < 65) = false := decide_eq_false (by omega)
          have hj5 : j = 65 := by omega
          have hv := HV.out
          rw [hj5, List.take_of_length_le (l := o) (by rw [HOL.out]; omega), List.take_of_length_le (l := t) (by rw [HTL.out]; omega), HVT.out] at hv
          have hlt : c + a * b < 256 ^ 65 := by
            obtain ⟨ha, hb, hc, hL⟩ := HAB.out
            have h1 : a * b ≤ ordL * ordL := Nat.mul_le_mul (by omega) (by omega)
            have h2 : ordL * ordL + ordL < 256 ^ 65 := by decide +kernel
            omega
          have hcr0 : cr = 0 := by
            rcases Nat.eq_zero_or_pos cr with h0 | h0
            · exact h0
            · have : 1 * 256 ^ 65 ≤ cr * 256 ^ 65 := Nat.mul_le_mul_right _ h0
              omega
          rw [hcr0, Nat.zero_mul, Nat.add_zero] at hv
          have ho : digs 256 (c + a * b) 65 = o := by rw [← hv, ← HOL.out, digs_val hoa]
          have hbn : bytesNat (natBytes (c + a * b) 65) = c + a * b := by rw [bytesNat_natBytes]; exact Nat.mod_eq_of_lt hlt
          have hconv := conv_string wr X 0 65 65 (natBytes (c + a * b) 65) (natBytes_length _ _) (fun i hi => by
            rw [Nat.zero_add, ints_cell qO (by rw [hol]; exact hi), natBytes_getD _ _ _ hi, ho])
          have HBN := hid hbn
          have QT := hid qT
          have QO := hid qO
          clear hv hlt hcr0 ho hbn qT qO hj5
          go_wp2_with fail
          have hsz : 8 * (ByteArray.mk (natBytes (c + a * b) 65).toArray).size ≤ 9223372036854775807 := by
            show 8 * (natBytes (c + a * b) 65).toArray.size ≤ _
            rw [List.size_toArray, natBytes_length]; decide
          have hbn2 : bytesNat (ByteArray.mk (natBytes (c + a * b) 65).toArray).data.toList = c + a * b := by
            simpa using HBN.out
          have hcall := ref_Of ⟨(natBytes (c + a * b) 65).toArray⟩ wr hsz
          rw [hbn2] at hcall
          refine hcall.mono ?_
          clear hcall hsz hbn2
          rintro e w5 ⟨rfl, hb5⟩
          have q5 := (hb5.block _ (lt_blk QZ.out)).trans QZ.out
          have be5 := below_to QBE.out hb5
          have hNle : W.heap.size ≤ N + 1 + 1 + 1 := by have := HN.out; omega
          rename_i hK
          refine hK _ _ ?_
          refine wp_store_num (l := digs 256 ((c + a * b) % ordL) 32) (by rfl) _ _ (by rfl) (by rfl) (by rfl) (by rw [digs_length]) (by exact q5) (by simp [ints_size]) ?_
          have RN := hid (blk_heap (o := .cells (ints .u8 (digs 256 ((c + a * b) % ordL) 32)) 37 (0, 0)) (lt_blk q5))
          go_wp2_with fail
          exact bodyPost_ret (v := .agg (ints .u8 (digs 256 ((c + a * b) % ordL) 32))) (results_cell_row Try.results16 _ _ (N + 1 + 1 + 1) _ _ _ _ (by rfl) RN.out Try.underlying37 rfl (by rw [info_Num, ints_size, digs_length])) rfl ⟨by rw [Nat.add_comm c], below_blk' be5 hNle _⟩

end Go.Proofs.Ytaencgjlneohnaa
