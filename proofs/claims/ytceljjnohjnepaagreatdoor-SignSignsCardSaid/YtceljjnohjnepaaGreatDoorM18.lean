/- The walks of the document's numbers: Bytes, Canonical, MulAdd. The walk of the document's MulAdd. The walks of Clamp, of the order's and the document's. The order of the base point is a prime. What a clamped secret is; which multiples of the base point are the zero point. Points as the document has them: three numbers; what they stand for; sums and multiples of them. Signatures: what a secret's key is, its signature of a text, which are verified: plain. -/
import Derived.Test.YtceljjnohjnepaaGreatDoorM17
import Derived.Test.YtceljjnohjnepaaGreatDoorM05
import Derived.Test.YtceljjnohjnepaaGreatDoorM01
import Derived.Test.YtceljjnohjnepaaGreatDoorM13
import Derived.Test.YtceljjnohjnepaaGreatDoorM09
import Derived.Test.YtceljjnohjnepaaGreatDoorM15
namespace Go.Proofs.YtceljjnohjnepaaGreatDoor
open Go.RowKit DG

set_option maxRecDepth 100000 in
@[go_sem] theorem omake32_32 (w : World) : (Instr.makeSlice 32 (.int .i64 32) (.int .i64 32)).run Tryz.prog w = .ok (.slice (some ⟨w.heap.size, 0, none⟩) 32 32) (w.alloc (.cells (ints .u8 (List.replicate 32 0)) 5)) := by kernel_rfl

set_option maxRecDepth 100000 in
theorem onatBytes_getD (n k j : Nat) (h : j < k) : ((natBytes n k).getD j 0).toNat = (digs 256 n k).getD j 0 := by
  rw [← natBytes_map]
  have : j < (natBytes n k).length := by rw [natBytes_length]; exact h
  simp [this]

set_option maxRecDepth 100000 in
set_option maxHeartbeats 1000000 in
theorem oref_Bytes (n : Nat) (W : World) :
    Calls Tryz.prog 27 #[.agg (ints .u8 (digs 256 n 32))] W fun e w' => e = .returned (.string ⟨(natBytes n 32).toArray⟩) ∧ Below W.heap.size W w' := by
  obtain ⟨l, hl⟩ : ∃ l, digs 256 n 32 = l := ⟨_, rfl⟩
  have hll : l.length = 32 := by rw [← hl, digs_length]
  have hla : All 256 l := by rw [← hl]; exact digs_all (by decide) _ _
  have hsa : (ints .u8 l).size = 32 := by rw [ints_size, hll]
  have HNB := hid (fun j (h : j < 32) => (onatBytes_getD n 32 j h).trans (by rw [hl]))
  rw [hl]
  have HLL := hid hll
  clear hl hll
  go_enter Tryz.func27, Tryz.ntmps27
  go_wp2_with fail
  obtain ⟨N, hN⟩ : ∃ N, N = W.heap.size := ⟨_, rfl⟩
  rw [← hN]
  have HN := hid hN
  go_loopw [4] (fun i wr => ∃ (k : Nat) (c : List Nat), k ≤ 32 ∧ i = .int .i64 (k : Int) ∧ c.length = 32 ∧ (∀ j, j < k → c.getD j 0 = l.getD j 0) ∧
    wr.heap[N]? = some (.cells (ints .u8 l) 44 (0, 0)) ∧ wr.heap[N + 1]? = some (.cells (ints .u8 c) 5 (0, 0)) ∧ Below W.heap.size W wr) (fun i _ => (32 - intOf i).toNat)
  case atStart =>
    exact ⟨0, List.replicate 32 0, by omega, rfl, by simp, fun j hj => absurd hj (by omega), alloc_old (alloc_at' hN _), alloc_at' (by simp [hN]) _, below_alloc (below_new _) _⟩
  case round =>
    clear hN
    obtain ⟨k, c, hk, rfl, hcl, hcj, rA, rC, rb⟩ := hrel
    have HCJ := hid hcj
    have RBE := hid rb
    clear hcj rb
    by_cases hk32 : k < 32
    · have hkd : decide ((k : Int) < 32) = true := decide_eq_true (by omega)
      have hi0 : 0 ≤ (k : Int) := by omega
      have hi1 : (k : Int) < 32 := by omega
      have ca := ints_cell rA (j := k) (by rw [HLL.out]; exact hk32)
      have cc := ints_cell rC (j := k) (by rw [hcl]; exact hk32)
      have hx := hla.getD (j := k) (by rw [HLL.out]; exact hk32)
      have hf := free_at rC
      generalize hxa : l.getD k 0 = x at *
      have HX := hid hxa
      have HA := hid rA
      have HC := hid rC
      have HCL := hid hcl
      clear hxa rA rC hcl
      go_wp2_with fail
      refine ⟨⟨k + 1, c.set k x, by omega, by go_num, by simp [HCL.out], ?_, at_setCell_other HA.out (by simp) _, ints_store HC.out _ _, RBE.out.setCell (by have := HN.out; simp; omega) _⟩, by simp [intOf]; omega⟩
      intro j hj
      by_cases hjk : j = k
      · subst hjk; rw [HX.out]; have := HCL.out; simp [show j < c.length by omega]
      · rw [← HCJ.out j (by omega)]; simp [Ne.symm hjk]
    · have hkd : decide ((k : Int) < 32) = false := decide_eq_false (by omega)
      have hconv := oconv_string wr (N + 1) 0 32 32 (natBytes n 32) (natBytes_length _ _) (fun j hj => by
        rw [Nat.zero_add, ints_cell rC (by rw [hcl]; exact hj), HCJ.out j (by omega), ← HNB.out j hj])
      have HA := hid rA
      have HC := hid rC
      clear rA rC
      go_wp2_with fail
      go_ret
      exact ⟨rfl, RBE.out⟩

set_option maxRecDepth 100000 in
theorem oref_Canonical (s : ByteArray) (W : World) (hmax : 8 * s.size ≤ 9223372036854775807) :
    Calls Tryz.prog 35 #[.string s] W fun e w' => e = .returned (.bool (ocanB s)) ∧ Below W.heap.size W w' := by
  by_cases h32 : s.size = 32
  · have hlt : bytesNat s.data.toList % ordL < 256 ^ 32 := Nat.lt_trans (Nat.mod_lt _ (by decide)) (by decide)
    have hcan : (natBytes (bytesNat s.data.toList % ordL) 32 == s.toList) = ocanB s := by
      unfold ocanB
      rw [toList_data, Bool.eq_iff_iff, beq_iff_eq, decide_eq_true_eq]
      have hl : s.data.toList.length = 32 := by simpa using h32
      constructor
      · intro h
        have h1 := bytesNat_natBytes (bytesNat s.data.toList % ordL) 32
        rw [h, Nat.mod_eq_of_lt hlt] at h1
        exact ⟨h32, by rw [h1]; exact Nat.mod_lt _ (by decide)⟩
      · rintro ⟨_, h⟩
        rw [Nat.mod_eq_of_lt h]
        have := natBytes_bytesNat s.data.toList
        rwa [hl] at this
    have HC := hid hcan
    have hs2 : ((s.size : Int) == 32) = true := by rw [beq_iff_eq]; omega
    clear hcan h32
    go_enter Tryz.func35, Tryz.ntmps35
    go_wp2_with fail
    refine (oref_Of s _ hmax).mono ?_
    rintro e w1 ⟨rfl, hb1⟩
    go_wp2_with fail
    refine (oref_Bytes _ _).mono ?_
    rintro e w2 ⟨rfl, hb2⟩
    have hb3 := below_to hb1 hb2
    clear hb1 hb2
    go_wp2_with fail
    go_ret
    exact ⟨congrArg (fun b => Ending.returned (.bool b)) HC.out, hb3⟩
  · have hcan : ocanB s = false := by unfold ocanB; exact decide_eq_false (fun h => h32 h.1)
    rw [hcan]
    have hs2 : ((s.size : Int) == 32) = false := by rw [beq_eq_false_iff_ne]; omega
    clear hcan h32
    go_enter Tryz.func35, Tryz.ntmps35
    go_wp2_with fail
    go_ret
    exact ⟨rfl, Below.refl _ _⟩

end Go.Proofs.YtceljjnohjnepaaGreatDoor

namespace Go.Proofs.YtceljjnohjnepaaGreatDoor
open Go.RowKit DG

set_option maxRecDepth 100000 in
@[go_sem] theorem make65 (w : World) : (Instr.makeSlice 32 (.int .i64 65) (.int .i64 65)).run Tryz.prog w = .ok (.slice (some ⟨w.heap.size, 0, none⟩) 65 65) (w.alloc (.cells (ints .u8 (List.replicate 65 0)) 5)) := by kernel_rfl

set_option maxRecDepth 100000 in
@[go_sem] theorem zero65 (w : World) : (zeroValue 92).run Tryz.prog w = .ok (.agg (ints .i64 (List.replicate 65 0))) w := by kernel_rfl
namespace DG
set_option maxRecDepth 100000 in
theorem val_take_succ2 {B : Nat} (l : List Nat) {k : Nat} (h : k < l.length) : val B (l.take (k + 1)) = val B (l.take k) + l.getD k 0 * B ^ k := by
  rw [List.take_succ_eq_append_getElem h, val_append, List.length_take, Nat.min_eq_left (by omega), getD_at h]
  simp [val, Nat.mul_comm]
set_option maxRecDepth 100000 in
theorem oadd_at {B : Nat} {l : List Nat} {j x : Nat} (h : j < l.length) : val B (l.set j (l.getD j 0 + x)) = val B l + x * B ^ j := by
  have := val_set (B := B) h (l.getD j 0 + x)
  rw [Nat.add_mul] at this
  omega
set_option maxRecDepth 100000 in
theorem otake_set_succ {l : List Nat} {j x : Nat} (h : j < l.length) (B : Nat) : val B ((l.set j x).take (j + 1)) = val B (l.take j) + x * B ^ j := by
  rw [val_take_succ2 _ (by simpa using h)]
  congr 1
  · congr 1; exact List.take_set_of_le (Nat.le_refl _)
  · simp [h]
set_option maxRecDepth 100000 in
/-- One digit of carrying. -/
theorem ocarry1 {o t : List Nat} {k cr d cr' : Nat} (hk : k < o.length) (hkt : k < t.length) (h : val 256 (o.take k) + cr * 256 ^ k = val 256 (t.take k)) (hx : d + cr' * 256 = t.getD k 0 + cr) :
    val 256 ((o.set k d).take (k + 1)) + cr' * 256 ^ (k + 1) = val 256 (t.take (k + 1)) := by
  rw [otake_set_succ hk, val_take_succ2 t hkt, ← h]
  have h3 : (d + cr' * 256) * 256 ^ k = (t.getD k 0 + cr) * 256 ^ k := by rw [hx]
  rw [Nat.add_mul, Nat.add_mul, Nat.mul_assoc, ← Nat.pow_succ', Nat.succ_eq_add_one] at h3
  omega
end DG

set_option maxRecDepth 100000 in
set_option maxHeartbeats 2000000 in
theorem ref_MulAdd (a b c : Nat) (W : World) (ha : a < ordL) (hb : b < ordL) (hc : c < ordL) :
    Calls Tryz.prog 26 #[.agg (ints .u8 (digs 256 a 32)), .agg (ints .u8 (digs 256 b 32)), .agg (ints .u8 (digs 256 c 32))] W fun e w' => e = .returned (.agg (ints .u8 (digs 256 ((a * b + c) % ordL) 32))) ∧ Below W.heap.size W w' := by
  have hL : ordL < 256 ^ 32 := by decide
  obtain ⟨la, hla⟩ : ∃ l, digs 256 a 32 = l := ⟨_, rfl⟩
  obtain ⟨lb, hlb⟩ : ∃ l, digs 256 b 32 = l := ⟨_, rfl⟩
  obtain ⟨lc, hlc⟩ : ∃ l, digs 256 c 32 = l := ⟨_, rfl⟩
  have va : val 256 la = a := by rw [← hla, val_digs]; exact Nat.mod_eq_of_lt (by omega)
  have vb : val 256 lb = b := by rw [← hlb, val_digs]; exact Nat.mod_eq_of_lt (by omega)
  have vc : val 256 lc = c := by rw [← hlc, val_digs]; exact Nat.mod_eq_of_lt (by omega)
  have la32 : la.length = 32 := by rw [← hla, digs_length]
  have lb32 : lb.length = 32 := by rw [← hlb, digs_length]
  have lc32 : lc.length = 32 := by rw [← hlc, digs_length]
  have aa : All 256 la := by rw [← hla]; exact digs_all (by decide) _ _
  have ab : All 256 lb := by rw [← hlb]; exact digs_all (by decide) _ _
  have ac : All 256 lc := by rw [← hlc]; exact digs_all (by decide) _ _
  rw [hla, hlb, hlc]
  have hsa : (ints .u8 la).size = 32 := by rw [ints_size, la32]
  have hsb : (ints .u8 lb).size = 32 := by rw [ints_size, lb32]
  have hsc : (ints .u8 lc).size = 32 := by rw [ints_size, lc32]
  have VA := hid va
  have VB := hid vb
  have VC := hid vc
  have LA := hid la32
  have LB := hid lb32
  have LC := hid lc32
  have HAB := hid (And.intro ha (And.intro hb (And.intro hc hL)))
  clear hla hlb hlc va vb vc la32 lb32 lc32 ha hb hc hL
  go_enter Tryz.func26, Tryz.ntmps26
  go_wp2_with fail
  have hz : #[.int .u8 0, .int .u8 0, .int .u8 0, .int .u8 0, .int .u8 0, .int .u8 0, .int .u8 0, .int .u8 0, .int .u8 0, .int .u8 0, .int .u8 0, .int .u8 0, .int .u8 0, .int .u8 0, .int .u8 0, .int .u8 0, .int .u8 0, .int .u8 0, .int .u8 0, .int .u8 0, .int .u8 0, .int .u8 0, .int .u8 0, .int .u8 0, .int .u8 0, .int .u8 0, .int .u8 0, .int .u8 0, .int .u8 0, .int .u8 0, .int .u8 0, .int .u8 0] = ints .u8 (List.replicate 32 0) := rfl
  rw [hz]
  clear hz hsa hsb hsc
  obtain ⟨N, hN⟩ : ∃ N, N = W.heap.size := ⟨_, rfl⟩
  rw [← hN]
  have HN := hid hN
  have hb0 : Below W.heap.size W (((((W.alloc (.cells (ints .u8 la) 44)).alloc (.cells (ints .u8 lb) 44)).alloc (.cells (ints .u8 lc) 44)).alloc (.cells (ints .u8 (List.replicate 32 0)) 44)).alloc (.cells (ints .i64 (List.replicate 65 0)) 92)) :=
    below_alloc (below_alloc (below_alloc (below_alloc (below_new _) _) _) _) _
  have HB0 := hid hb0
  clear hb0
  go_loopw [8] (fun i wr => ∃ (k : Nat) (t : List Nat), k ≤ 32 ∧ i = .int .i64 (k : Int) ∧ t.length = 65 ∧ All (65280 * (33 * k) + 1) t ∧ val 256 t = val 256 (lc.take k) + val 256 (la.take k) * b ∧
    wr.heap[N]? = some (.cells (ints .u8 la) 44 (0, 0)) ∧ wr.heap[N + 1]? = some (.cells (ints .u8 lb) 44 (0, 0)) ∧ wr.heap[N + 1 + 1]? = some (.cells (ints .u8 lc) 44 (0, 0)) ∧
    wr.heap[N + 1 + 1 + 1]? = some (.cells (ints .u8 (List.replicate 32 0)) 44 (0, 0)) ∧ wr.heap[N + 1 + 1 + 1 + 1]? = some (.cells (ints .i64 t) 92 (0, 0)) ∧ Below W.heap.size W wr) (fun i _ => (32 - intOf i).toNat)
  case atStart =>
    refine ⟨0, List.replicate 65 0, by omega, rfl, by simp, ?_, ?_, alloc_old (alloc_old (alloc_old (alloc_old (alloc_at' hN _)))), alloc_old (alloc_old (alloc_old (alloc_at' (by simp [hN]) _))), alloc_old (alloc_old (alloc_at' (by simp [hN]) _)), alloc_old (alloc_at' (by simp [hN]) _), alloc_at' (by simp [hN]) _, HB0.out⟩
    · intro x hx; rw [List.eq_of_mem_replicate hx]; decide
    · simp [val]
  case round =>
    clear hN
    obtain ⟨k, t, hk, rfl, htl, hta, hv, rA, rB, rC, rZ, rT, rb⟩ := hrel
    have HV := hid hv
    have RA := hid rA
    have RB := hid rB
    have RZ := hid rZ
    have RBE := hid rb
    have HTL := hid htl
    clear hv rA rB rZ rb
    by_cases hk32 : k < 32
    · have hkd : decide ((k : Int) < 32) = true := decide_eq_true (by omega)
      have hi0 : 0 ≤ (k : Int) := by omega
      have hi1 : (k : Int) < 32 := by omega
      have hi2 : (k : Int) < 65 := by omega
      have ct := ints_cell rT (j := k) (by omega)
      have cc := ints_cell rC (j := k) (by rw [LC.out]; exact hk32)
      have hx := hta.getD (j := k) (by omega)
      have hy := ac.getD (j := k) (by rw [LC.out]; exact hk32)
      have hft := free_at rT
      generalize hxa : t.getD k 0 = x at *
      generalize hyc : lc.getD k 0 = y at *
      have HX := hid hxa
      have HY := hid hyc
      have RT := hid rT
      have RC := hid rC
      clear hxa hyc rT rC htl
      go_wp2_with fail
      refine still_tail 10 (by kernel_rfl) (by kernel_rfl) ?_
      simp only [List.take_succ_cons, List.take_zero, List.drop_succ_cons, List.drop_zero]
      repeat (first | (refine wpStill_step (fun K hK => ?_); go_simp; refine hK _ ?_; clear hK K; try go_ints))
      refine wpStill_nil ?_
      have hst := oadd_at (B := 256) (l := t) (j := k) (x := y) (by rw [HTL.out]; omega)
      rw [HX.out] at hst
      have hst2 := ints_store RT.out k (x + y)
      have hall2 : All (65280 * (33 * k + 1) + 1) (t.set k (x + y)) := All.set (hta.mono (by omega)) _ (by omega)
      have HST := hid hst
      have HALL2 := hid hall2
      have RT2 := hid hst2
      clear hst hst2 hall2
      go_wp2_with fail
      clear ct cc hft
      have e65 := hid (Int.natCast_add x y)
      have hrowB := HN.out
      go_loopw [9] (fun i wq => ∃ (j : Nat) (u : List Nat), j ≤ 32 ∧ i = .int .i64 (j : Int) ∧ u.length = 65 ∧ All (65280 * (33 * k + 1 + j) + 1) u ∧ val 256 u = val 256 (lc.take (k + 1)) + val 256 (la.take k) * b + la.getD k 0 * val 256 (lb.take j) * 256 ^ k ∧
        wq.heap[N]? = some (.cells (ints .u8 la) 44 (0, 0)) ∧ wq.heap[N + 1]? = some (.cells (ints .u8 lb) 44 (0, 0)) ∧ wq.heap[N + 1 + 1]? = some (.cells (ints .u8 lc) 44 (0, 0)) ∧
        wq.heap[N + 1 + 1 + 1]? = some (.cells (ints .u8 (List.replicate 32 0)) 44 (0, 0)) ∧ wq.heap[N + 1 + 1 + 1 + 1]? = some (.cells (ints .i64 u) 92 (0, 0)) ∧ Below W.heap.size W wq) (fun i _ => (32 - intOf i).toNat)
      case atStart =>
        refine ⟨0, t.set k (x + y), by omega, rfl, by simp [HTL.out], HALL2.out, ?_, at_setCell_other RA.out (by simp; omega) _, at_setCell_other RB.out (by simp) _, at_setCell_other RC.out (by simp) _, at_setCell_other RZ.out (by simp) _, ?_, (RBE.out.setCell (by simp; omega) _).drew⟩
        · rw [HST.out, HV.out, val_take_succ2 lc (by rw [LC.out]; exact hk32), HY.out]
          simp [val]; omega
        · rw [← e65.out]; exact RT2.out
      case round =>
        clear hrowB
        obtain ⟨j, u, hj, rfl, hul, hua, hv, qA, qB, qC, qZ, qT, qb⟩ := hrel
        have HU := hid hv
        have QC := hid qC
        have QZ := hid qZ
        have QBE := hid qb
        have HUL := hid hul
        clear hv qC qZ qb
        by_cases hj32 : j < 32
        · have hjd : decide ((j : Int) < 32) = true := decide_eq_true (by omega)
          have hj0 : 0 ≤ (j : Int) := by omega
          have hj1 : (j : Int) < 32 := by omega
          have hs0 : 0 ≤ (k : Int) + (j : Int) := by omega
          have hs1 : (k : Int) + (j : Int) < 65 := by omega
          have hs2 : ((k : Int) + (j : Int)).toNat = k + j := by omega
          have ct := ints_cell qT (j := k + j) (by omega)
          have ca := ints_cell qA (j := k) (by rw [LA.out]; exact hk32)
          have cb := ints_cell qB (j := j) (by rw [LB.out]; exact hj32)
          have hu := hua.getD (j := k + j) (by omega)
          have hp := aa.getD (j := k) (by rw [LA.out]; exact hk32)
          have hq := ab.getD (j := j) (by rw [LB.out]; exact hj32)
          have hft := free_at qT
          generalize hua2 : u.getD (k + j) 0 = s at *
          generalize hpa : la.getD k 0 = p at *
          generalize hqa : lb.getD j 0 = q at *
          have hpq : p * q ≤ 255 * 255 := Nat.mul_le_mul (by omega) (by omega)
          have hpqi : (p : Int) * (q : Int) = ((p * q : Nat) : Int) := (Int.natCast_mul p q).symm
          have hpq0 : 0 ≤ (p : Int) * (q : Int) := by rw [hpqi]; omega
          have hpq1 : (p : Int) * (q : Int) ≤ 65025 := by rw [hpqi]; omega
          have HS := hid hua2
          have HP := hid hpa
          have HQ := hid hqa
          have QT := hid qT
          have QA := hid qA
          have QB := hid qB
          have HPQ := hid hpqi
          clear hua2 hpa hqa qT qA qB hul hpqi
          go_wp2_with fail
          refine still_tail 19 (by kernel_rfl) (by kernel_rfl) ?_
          simp only [List.take_succ_cons, List.take_zero, List.drop_succ_cons, List.drop_zero]
          repeat (first | (refine wpStill_step (fun K hK => ?_); go_simp; refine hK _ ?_; clear hK K; try go_ints))
          refine wpStill_nil ?_
          have hst := oadd_at (B := 256) (l := u) (j := k + j) (x := p * q) (by rw [HUL.out]; omega)
          rw [HS.out] at hst
          have hst2 := ints_store QT.out (k + j) (s + p * q)
          have hall2 : All (65280 * (33 * k + 1 + (j + 1)) + 1) (u.set (k + j) (s + p * q)) := All.set (hua.mono (by omega)) _ (by omega)
          have hsum : (s : Int) + (p : Int) * (q : Int) = ((s + p * q : Nat) : Int) := by rw [HPQ.out]; omega
          have hv2 : val 256 (u.set (k + j) (s + p * q)) = val 256 (lc.take (k + 1)) + val 256 (la.take k) * b + p * val 256 (lb.take (j + 1)) * 256 ^ k := by
            rw [hst, HU.out, val_take_succ2 lb (by rw [LB.out]; exact hj32), HQ.out, Nat.pow_add]
            generalize 256 ^ k = K
            generalize 256 ^ j = J
            generalize val 256 (lb.take j) = V
            rw [Nat.mul_add, Nat.add_mul, show p * q * (K * J) = p * (q * J) * K by rw [Nat.mul_assoc p, Nat.mul_assoc p, Nat.mul_assoc q, Nat.mul_comm J K]]
            omega
          have HV2 := hid hv2
          have HALL := hid hall2
          have QT2 := hid hst2
          have HSUM := hid hsum
          clear hst hst2 hall2 hsum hv2
          go_wp2_with fail
          rw [HSUM.out]
          exact ⟨⟨j + 1, _, by omega, by go_num, by simp [HUL.out], HALL.out, HV2.out, at_setCell_other QA.out (by simp; omega) _, at_setCell_other QB.out (by simp) _, at_setCell_other QC.out (by simp) _, at_setCell_other QZ.out (by simp) _, QT2.out, (QBE.out.setCell (by have := HN.out; simp; omega) _).drew⟩, by simp [intOf]; omega⟩
        · have hjd : decide ((j : Int) < 32) = false := decide_eq_false (by omega)
          have hj5 : j = 32 := by omega
          have hv := HU.out
          rw [hj5, List.take_of_length_le (l := lb) (by rw [LB.out]; omega), VB.out] at hv
          have hv3 : val 256 u = val 256 (lc.take (k + 1)) + val 256 (la.take (k + 1)) * b := by
            rw [hv, val_take_succ2 la (by rw [LA.out]; exact hk32), Nat.add_mul, Nat.mul_right_comm]
            omega
          have hall : All (65280 * (33 * (k + 1)) + 1) u := hua.mono (by omega)
          have HV3 := hid hv3
          have HALL := hid hall
          have QA := hid qA
          have QB := hid qB
          have QT := hid qT
          clear hv hv3 hall hj5 qA qB qT
          go_wp2_with fail
          exact ⟨⟨k + 1, u, by omega, by go_num, HUL.out, HALL.out, HV3.out, QA.out, QB.out, QC.out, QZ.out, QT.out, QBE.out⟩, by simp [intOf]; omega⟩
    · have hkd : decide ((k : Int) < 32) = false := decide_eq_false (by omega)
      have hk5 : k = 32 := by omega
      have hv := HV.out
      rw [hk5, List.take_of_length_le (l := lc) (by rw [LC.out]; omega), List.take_of_length_le (l := la) (by rw [LA.out]; omega), VC.out, VA.out] at hv
      have hall : All 68939680 t := hta.mono (by omega)
      have HVT := hid hv
      have HALL := hid hall
      have RT := hid rT
      clear hv hall hta hk5 HV rT rC HB0
      go_wp2_with fail
      obtain ⟨X, hX⟩ : ∃ X, X = wr.heap.size := ⟨_, rfl⟩
      rw [← hX]
      have hTX : N + 1 + 1 + 1 + 1 < X := by rw [hX]; exact lt_blk RT.out
      have hWX : W.heap.size ≤ X := by rw [hX]; exact RBE.out.size
      go_loopw [12, 11] (fun i cy wq => ∃ (j cr : Nat) (o : List Nat), j ≤ 65 ∧ i = .int .i64 (j : Int) ∧ cy = .int .i64 (cr : Int) ∧ cr < 68939680 ∧ o.length = 65 ∧ All 256 o ∧ val 256 (o.take j) + cr * 256 ^ j = val 256 (t.take j) ∧
        wq.heap[N + 1 + 1 + 1]? = some (.cells (ints .u8 (List.replicate 32 0)) 44 (0, 0)) ∧ wq.heap[N + 1 + 1 + 1 + 1]? = some (.cells (ints .i64 t) 92 (0, 0)) ∧ wq.heap[X]? = some (.cells (ints .u8 o) 5 (0, 0)) ∧ Below W.heap.size W wq) (fun i _ _ => (65 - intOf i).toNat)
      case atStart =>
        exact ⟨0, 0, List.replicate 65 0, by omega, rfl, rfl, by omega, by simp, by intro x hx; rw [List.eq_of_mem_replicate hx]; decide, by simp [val], alloc_old RZ.out, alloc_old RT.out, alloc_at' hX _, below_alloc RBE.out _⟩
      case round =>
        clear hX
        obtain ⟨j, cr, o, hj, rfl, rfl, hcr, hol, hoa, hv, qZ, qT, qO, qb⟩ := hrel
        have HV := hid hv
        have QZ := hid qZ
        have QBE := hid qb
        have HOL := hid hol
        clear hv qZ qb
        by_cases hj65 : j < 65
        · have hjd : decide ((j : Int) < 65) = true := decide_eq_true (by omega)
          have hj0 : 0 ≤ (j : Int) := by omega
          have hj1 : (j : Int) < 65 := by omega
          have ct := ints_cell qT (j := j) (by rw [HTL.out]; omega)
          have co := ints_cell qO (j := j) (by omega)
          have hx := HALL.out.getD (j := j) (by rw [HTL.out]; omega)
          have hf := free_at qO
          generalize hxa : t.getD j 0 = x at *
          have HX := hid hxa
          have QT := hid qT
          have QO := hid qO
          clear hxa qT qO hol
          go_wp2_with fail
          have hst := ocarry1 (o := o) (t := t) (k := j) (cr := cr) (d := (x + cr) % 256) (cr' := (x + cr) / 256) (by rw [HOL.out]; omega) (by rw [HTL.out]; omega) HV.out (by rw [HX.out]; omega)
          have HST := hid hst
          have e1 : (((x : Int) + (cr : Int)) / 256) = (((x + cr) / 256 : Nat) : Int) := by omega
          have e2 : (((x : Int) + (cr : Int)) % 256) = (((x + cr) % 256 : Nat) : Int) := by omega
          rw [e1, e2]
          exact ⟨⟨j + 1, (x + cr) / 256, o.set j ((x + cr) % 256), by omega, by go_num, rfl, by omega, by simp [HOL.out], All.set hoa _ (by omega), HST.out, at_setCell_other QZ.out (by simp; omega) _, at_setCell_other QT.out (by simp; omega) _, ints_store QO.out _ _, QBE.out.setCell (by simp; omega) _⟩, by simp [intOf]; omega⟩
        · have hjd : decide ((j : Int) < 65) = false := decide_eq_false (by omega)
          have hj5 : j = 65 := by omega
          have hv := HV.out
          rw [hj5, List.take_of_length_le (l := o) (by rw [HOL.out]; omega), List.take_of_length_le (l := t) (by rw [HTL.out]; omega), HVT.out] at hv
          have hlt : c + a * b < 256 ^ 65 := by
            obtain ⟨ha, hb, hc, hL⟩ := HAB.out
            have h1 : a * b ≤ ordL * ordL := Nat.mul_le_mul (by omega) (by omega)
            have h2 : ordL * ordL + ordL < 256 ^ 65 := by decide +kernel
            omega
          have hcr0 : cr = 0 := by
            rcases Nat.eq_zero_or_pos cr with h0 | h0
            · exact h0
            · have : 1 * 256 ^ 65 ≤ cr * 256 ^ 65 := Nat.mul_le_mul_right _ h0
              omega
          rw [hcr0, Nat.zero_mul, Nat.add_zero] at hv
          have ho : digs 256 (c + a * b) 65 = o := by rw [← hv, ← HOL.out, digs_val hoa]
          have hbn : bytesNat (natBytes (c + a * b) 65) = c + a * b := by rw [bytesNat_natBytes]; exact Nat.mod_eq_of_lt hlt
          have hconv := oconv_string wr X 0 65 65 (natBytes (c + a * b) 65) (natBytes_length _ _) (fun i hi => by
            rw [Nat.zero_add, ints_cell qO (by rw [hol]; exact hi), onatBytes_getD _ _ _ hi, ho])
          have HBN := hid hbn
          have QT := hid qT
          have QO := hid qO
          clear hv hlt hcr0 ho hbn qT qO hj5
          go_wp2_with fail
          have hsz : 8 * (ByteArray.mk (natBytes (c + a * b) 65).toArray).size ≤ 9223372036854775807 := by
            show 8 * (natBytes (c + a * b) 65).toArray.size ≤ _
            rw [List.size_toArray, natBytes_length]; decide
          have hbn2 : bytesNat (ByteArray.mk (natBytes (c + a * b) 65).toArray).data.toList = c + a * b := by
            simpa using HBN.out
          have hcall := oref_Of ⟨(natBytes (c + a * b) 65).toArray⟩ wr hsz
          rw [hbn2] at hcall
          refine hcall.mono ?_
          clear hcall hsz hbn2
          rintro e w5 ⟨rfl, hb5⟩
          have q5 := (hb5.block _ (lt_blk QZ.out)).trans QZ.out
          have be5 := below_to QBE.out hb5
          have hNle : W.heap.size ≤ N + 1 + 1 + 1 := by have := HN.out; omega
          rename_i hK
          refine hK _ _ ?_
          refine wp_store_num (l := digs 256 ((c + a * b) % ordL) 32) (by rfl) _ _ (by rfl) (by rfl) (by rfl) (by rw [digs_length]) (by exact q5) (by simp [ints_size]) ?_
          have RN := hid (blk_heap (o := .cells (ints .u8 (digs 256 ((c + a * b) % ordL) 32)) 44 (0, 0)) (lt_blk q5))
          go_wp2_with fail
          exact bodyPost_ret (v := .agg (ints .u8 (digs 256 ((c + a * b) % ordL) 32))) (results_cell_row Tryz.results26 _ _ (N + 1 + 1 + 1) _ _ _ _ (by rfl) RN.out Tryz.underlying44 rfl (by rw [info_RNum, ints_size, digs_length])) rfl ⟨by rw [Nat.add_comm c], below_blk' be5 hNle _⟩

end Go.Proofs.YtceljjnohjnepaaGreatDoor

namespace Go.Proofs.YtceljjnohjnepaaGreatDoor
open Go.RowKit DG

def clampL (l : List UInt8) : List UInt8 := (l.set 0 (l.getD 0 0 &&& 248)).set 31 ((l.getD 31 0 &&& 127) ||| 64)
set_option maxRecDepth 100000 in
theorem and248 (x : UInt8) : bits .and .u8 (x.toNat : Int) 248 = ((x &&& 248).toNat : Int) := by
  rw [show (248 : Int) = ((248 : Nat) : Int) from rfl, u8_and_nat _ _ x.toNat_lt (by decide), UInt8.toNat_and]; rfl
set_option maxRecDepth 100000 in
theorem and127 (x : UInt8) : bits .and .u8 (x.toNat : Int) 127 = ((x &&& 127).toNat : Int) := by
  rw [show (127 : Int) = ((127 : Nat) : Int) from rfl, u8_and_nat _ _ x.toNat_lt (by decide), UInt8.toNat_and]; rfl
set_option maxRecDepth 100000 in
theorem or64 (x : UInt8) : bits .or .u8 (x.toNat : Int) 64 = ((x ||| 64).toNat : Int) := by
  rw [show (64 : Int) = ((64 : Nat) : Int) from rfl, u8_or_nat _ _ x.toNat_lt (by decide), UInt8.toNat_or]; rfl
set_option maxRecDepth 100000 in
theorem andNot7 (x : UInt8) : bits .andNot .u8 (x.toNat : Int) 7 = ((x &&& 248).toNat : Int) := by
  rw [show (7 : Int) = ((7 : Nat) : Int) from rfl, u8_andNot_nat _ _ x.toNat_lt (by decide), UInt8.toNat_and]; rfl
set_option maxRecDepth 100000 in
theorem andNot128 (x : UInt8) : bits .andNot .u8 (x.toNat : Int) 128 = ((x &&& 127).toNat : Int) := by
  rw [show (128 : Int) = ((128 : Nat) : Int) from rfl, u8_andNot_nat _ _ x.toNat_lt (by decide), UInt8.toNat_and]; rfl

set_option maxRecDepth 100000 in
set_option maxHeartbeats 400000 in
theorem Clamp_32 (s : ByteArray) (W : World) (h32 : s.size = 32) :
    Calls Tryz.prog 41 #[.string s] W fun e w' => e = .returned (.tuple #[.string ⟨(clampL s.data.toList).toArray⟩, .int .i64 0]) ∧ Below W.heap.size W w' := by
  have hn : ((s.size : Int) != 32) = false := by rw [bne_eq_false_iff_eq]; omega
  have HN := hid h32
  have hll : s.data.toList.length = 32 := by simpa using h32
  obtain ⟨l, hl⟩ : ∃ l, s.data.toList = l := ⟨_, rfl⟩
  rw [hl] at hll ⊢
  have HLL := hid hll
  have HL := hid hl
  clear hll hl
  go_enter Tryz.func41, Tryz.ntmps41
  go_upto_region 4 with (fail)
  clear hn
  have hL := laid_bytes W s
  have hB := hid (bytesWorld_below W 5 s)
  rw [HL.out] at hL
  clear h32 HN
  generalize Lib.bytesWorld W 5 s = w1 at *
  generalize grownCap W 32 0 5 = cap at *
  generalize hNN : W.heap.size = N at *
  have hlen := HLL.out
  obtain ⟨x0, hx0⟩ : ∃ x, l.getD 0 0 = x := ⟨_, rfl⟩
  obtain ⟨x1, hx1⟩ : ∃ x, l.getD 31 0 = x := ⟨_, rfl⟩
  have hcl : clampL l = (l.set 0 (x0 &&& 248)).set 31 ((x1 &&& 127) ||| 64) := by unfold clampL; rw [hx0, hx1]
  have HCL := hid hcl
  have c0 := hL.cell (j := 0) (by omega)
  have c1 := hL.cell (j := 31) (by omega)
  have f0 := hL.free (j := 0) (by omega)
  have f1 := hL.free (j := 31) (by omega)
  rw [hx0] at c0
  rw [hx1] at c1
  have L2 := (hL.set 0 (x0 &&& 248)).set 31 (x1 &&& 127)
  have L3 := hid (L2.set 31 ((x1 &&& 127) ||| 64))
  rw [List.set_set] at L3
  have BE := hid (((hB.out.setCell (p := ⟨N, 0, none⟩) (Nat.le_refl _) (.int .u8 ((x0 &&& 248).toNat : Int))).setCell (p := ⟨N, 31, none⟩) (Nat.le_refl _) (.int .u8 ((x1 &&& 127).toNat : Int))).setCell (p := ⟨N, 31, none⟩) (Nat.le_refl _) (.int .u8 (((x1 &&& 127) ||| 64).toNat : Int)))
  clear hlen hcl hx0 hx1 L2 hL
  go_upto_region 7 with (fail)
  rw [and248, and127, or64]
  have l3 := L3.out
  have be := BE.out
  generalize (((x0 &&& 248).toNat : Nat) : Int) = v0 at *
  generalize (((x1 &&& 127).toNat : Nat) : Int) = v1 at *
  generalize ((((x1 &&& 127) ||| 64).toNat : Nat) : Int) = v2 at *
  have hl3 : ((l.set 0 (x0 &&& 248)).set 31 ((x1 &&& 127) ||| 64)).length = 32 := by simp [HLL.out]
  have hconv := fun (cap : Nat) => oconv_string _ N 0 32 cap _ hl3 (fun j hj => by rw [Nat.zero_add]; exact l3.cell (by rw [hl3]; exact hj))
  go_wp2_with fail
  refine bodyPost_ret (v := .tuple #[.string ⟨((l.set 0 (x0 &&& 248)).set 31 ((x1 &&& 127) ||| 64)).toArray⟩, .int .i64 0]) (by simp [results, Tryz.results41, go_sem]) rfl ?_
  exact ⟨by rw [HCL.out], by rw [hNN]; exact be⟩

set_option maxRecDepth 100000 in
theorem Clamp_no (s : ByteArray) (W : World) (h32 : ¬ s.size = 32) :
    Calls Tryz.prog 41 #[.string s] W fun e w' => e = .returned (.tuple #[.string ⟨#[]⟩, .int .i64 2]) ∧ Below W.heap.size W w' := by
  have hn : ((s.size : Int) != 32) = true := by rw [bne_iff_ne]; omega
  clear h32
  go_enter Tryz.func41, Tryz.ntmps41
  go_wp2_with fail
  exact bodyPost_ret (v := .tuple #[.string ⟨#[]⟩, .int .i64 2]) (by simp [results, Tryz.results41, go_sem]) rfl ⟨rfl, Below.refl _ _⟩

set_option maxRecDepth 100000 in
set_option maxHeartbeats 400000 in
theorem ref_Clamp (s : ByteArray) (W : World) (h32 : s.size = 32) :
    Calls Tryz.prog 42 #[.string s] W fun e w' => e = .returned (.string ⟨(clampL s.data.toList).toArray⟩) ∧ Below W.heap.size W w' := by
  have HN := hid h32
  have hll : s.data.toList.length = 32 := by simpa using h32
  obtain ⟨l, hl⟩ : ∃ l, s.data.toList = l := ⟨_, rfl⟩
  rw [hl] at hll ⊢
  have HLL := hid hll
  have HL := hid hl
  clear hll hl
  go_enter Tryz.func42, Tryz.ntmps42
  go_upto_region 2 with (fail)
  have hL := laid_bytes W s
  have hB := hid (bytesWorld_below W 5 s)
  rw [HL.out] at hL
  clear h32 HN
  generalize Lib.bytesWorld W 5 s = w1 at *
  generalize grownCap W 32 0 5 = cap at *
  generalize hNN : W.heap.size = N at *
  have hlen := HLL.out
  obtain ⟨x0, hx0⟩ : ∃ x, l.getD 0 0 = x := ⟨_, rfl⟩
  obtain ⟨x1, hx1⟩ : ∃ x, l.getD 31 0 = x := ⟨_, rfl⟩
  have hcl : clampL l = (l.set 0 (x0 &&& 248)).set 31 ((x1 &&& 127) ||| 64) := by unfold clampL; rw [hx0, hx1]
  have HCL := hid hcl
  have c0 := hL.cell (j := 0) (by omega)
  have c1 := hL.cell (j := 31) (by omega)
  have f0 := hL.free (j := 0) (by omega)
  have f1 := hL.free (j := 31) (by omega)
  rw [hx0] at c0
  rw [hx1] at c1
  have L3 := hid ((hL.set 0 (x0 &&& 248)).set 31 ((x1 &&& 127) ||| 64))
  have BE := hid ((hB.out.setCell (p := ⟨N, 0, none⟩) (Nat.le_refl _) (.int .u8 ((x0 &&& 248).toNat : Int))).setCell (p := ⟨N, 31, none⟩) (Nat.le_refl _) (.int .u8 (((x1 &&& 127) ||| 64).toNat : Int)))
  clear hlen hcl hx0 hx1 hL
  go_upto_region 4 with (fail)
  rw [andNot7, andNot128, or64]
  have l3 := L3.out
  have be := BE.out
  generalize (((x0 &&& 248).toNat : Nat) : Int) = v0 at *
  generalize ((((x1 &&& 127) ||| 64).toNat : Nat) : Int) = v2 at *
  have hl3 : ((l.set 0 (x0 &&& 248)).set 31 ((x1 &&& 127) ||| 64)).length = 32 := by simp [HLL.out]
  have hconv := fun (cap : Nat) => oconv_string _ N 0 32 cap _ hl3 (fun j hj => by rw [Nat.zero_add]; exact l3.cell (by rw [hl3]; exact hj))
  go_wp2_with fail
  refine bodyPost_ret (v := .string ⟨((l.set 0 (x0 &&& 248)).set 31 ((x1 &&& 127) ||| 64)).toArray⟩) (by simp [results, Tryz.results42, go_sem]) rfl ?_
  exact ⟨by rw [HCL.out], by rw [hNN]; exact be⟩

end Go.Proofs.YtceljjnohjnepaaGreatDoor

namespace Go.Proofs.YtceljjnohjnepaaGreatDoor.NT

set_option maxRecDepth 100000 in
theorem p11 : Prime 11 := prime_small (by decide +kernel)
set_option maxRecDepth 100000 in
theorem p34123 : Prime 34123 := prime_of (g := 2) (fs := [2, 3, 11, 11, 47]) (by decide +kernel) (by
  intro q hq
  simp only [List.mem_cons, List.not_mem_nil, or_false] at hq
  rcases hq with rfl | rfl | rfl | rfl | rfl
  · exact p2
  · exact p3
  · exact p11
  · exact p11
  · exact p47)
set_option maxRecDepth 100000 in
theorem p409477 : Prime 409477 := prime_of (g := 2) (fs := [2, 2, 3, 34123]) (by decide +kernel) (by
  intro q hq
  simp only [List.mem_cons, List.not_mem_nil, or_false] at hq
  rcases hq with rfl | rfl | rfl | rfl
  · exact p2
  · exact p2
  · exact p3
  · exact p34123)
set_option maxRecDepth 100000 in
theorem p14741173 : Prime 14741173 := prime_of (g := 2) (fs := [2, 2, 3, 3, 409477]) (by decide +kernel) (by
  intro q hq
  simp only [List.mem_cons, List.not_mem_nil, or_false] at hq
  rcases hq with rfl | rfl | rfl | rfl | rfl
  · exact p2
  · exact p2
  · exact p3
  · exact p3
  · exact p409477)
set_option maxRecDepth 100000 in
theorem p58964693 : Prime 58964693 := prime_of (g := 2) (fs := [2, 2, 14741173]) (by decide +kernel) (by
  intro q hq
  simp only [List.mem_cons, List.not_mem_nil, or_false] at hq
  rcases hq with rfl | rfl | rfl
  · exact p2
  · exact p2
  · exact p14741173)
set_option maxRecDepth 100000 in
theorem p30703 : Prime 30703 := prime_of (g := 3) (fs := [2, 3, 7, 17, 43]) (by decide +kernel) (by
  intro q hq
  simp only [List.mem_cons, List.not_mem_nil, or_false] at hq
  rcases hq with rfl | rfl | rfl | rfl | rfl
  · exact p2
  · exact p3
  · exact p7
  · exact p17
  · exact p43)
set_option maxRecDepth 100000 in
theorem p79 : Prime 79 := prime_small (by decide +kernel)
set_option maxRecDepth 100000 in
theorem p41081 : Prime 41081 := prime_of (g := 3) (fs := [2, 2, 2, 5, 13, 79]) (by decide +kernel) (by
  intro q hq
  simp only [List.mem_cons, List.not_mem_nil, or_false] at hq
  rcases hq with rfl | rfl | rfl | rfl | rfl | rfl
  · exact p2
  · exact p2
  · exact p2
  · exact p5
  · exact p13
  · exact p79)
set_option maxRecDepth 100000 in
theorem p82163 : Prime 82163 := prime_of (g := 2) (fs := [2, 41081]) (by decide +kernel) (by
  intro q hq
  simp only [List.mem_cons, List.not_mem_nil, or_false] at hq
  rcases hq with rfl | rfl
  · exact p2
  · exact p41081)
set_option maxRecDepth 100000 in
theorem p67 : Prime 67 := prime_small (by decide +kernel)
set_option maxRecDepth 100000 in
theorem p22111 : Prime 22111 := prime_of (g := 6) (fs := [2, 3, 5, 11, 67]) (by decide +kernel) (by
  intro q hq
  simp only [List.mem_cons, List.not_mem_nil, or_false] at hq
  rcases hq with rfl | rfl | rfl | rfl | rfl
  · exact p2
  · exact p3
  · exact p5
  · exact p11
  · exact p67)
set_option maxRecDepth 100000 in
theorem p132667 : Prime 132667 := prime_of (g := 5) (fs := [2, 3, 22111]) (by decide +kernel) (by
  intro q hq
  simp only [List.mem_cons, List.not_mem_nil, or_false] at hq
  rcases hq with rfl | rfl | rfl
  · exact p2
  · exact p3
  · exact p22111)
set_option maxRecDepth 100000 in
theorem p17231 : Prime 17231 := prime_of (g := 13) (fs := [2, 5, 1723]) (by decide +kernel) (by
  intro q hq
  simp only [List.mem_cons, List.not_mem_nil, or_false] at hq
  rcases hq with rfl | rfl | rfl
  · exact p2
  · exact p5
  · exact p1723)
set_option maxRecDepth 100000 in
theorem p137849 : Prime 137849 := prime_of (g := 3) (fs := [2, 2, 2, 17231]) (by decide +kernel) (by
  intro q hq
  simp only [List.mem_cons, List.not_mem_nil, or_false] at hq
  rcases hq with rfl | rfl | rfl | rfl
  · exact p2
  · exact p2
  · exact p2
  · exact p17231)
set_option maxRecDepth 100000 in
theorem p3044861653679985063343 : Prime 3044861653679985063343 := prime_of (g := 5) (fs := [2, 3, 11, 30703, 82163, 132667, 137849]) (by decide +kernel) (by
  intro q hq
  simp only [List.mem_cons, List.not_mem_nil, or_false] at hq
  rcases hq with rfl | rfl | rfl | rfl | rfl | rfl | rfl
  · exact p2
  · exact p3
  · exact p11
  · exact p30703
  · exact p82163
  · exact p132667
  · exact p137849)
set_option maxRecDepth 100000 in
theorem p198211423230930754013084525763697 : Prime 198211423230930754013084525763697 := prime_of (g := 5) (fs := [2, 2, 2, 2, 3, 23, 58964693, 3044861653679985063343]) (by decide +kernel) (by
  intro q hq
  simp only [List.mem_cons, List.not_mem_nil, or_false] at hq
  rcases hq with rfl | rfl | rfl | rfl | rfl | rfl | rfl | rfl
  · exact p2
  · exact p2
  · exact p2
  · exact p2
  · exact p3
  · exact p23
  · exact p58964693
  · exact p3044861653679985063343)
set_option maxRecDepth 100000 in
theorem p269 : Prime 269 := prime_small (by decide +kernel)
set_option maxRecDepth 100000 in
theorem p73 : Prime 73 := prime_small (by decide +kernel)
set_option maxRecDepth 100000 in
theorem p307 : Prime 307 := prime_small (by decide +kernel)
set_option maxRecDepth 100000 in
theorem p5879 : Prime 5879 := prime_small (by decide +kernel)
set_option maxRecDepth 100000 in
theorem p292386187 : Prime 292386187 := prime_of (g := 2) (fs := [2, 3, 3, 3, 3, 307, 5879]) (by decide +kernel) (by
  intro q hq
  simp only [List.mem_cons, List.not_mem_nil, or_false] at hq
  rcases hq with rfl | rfl | rfl | rfl | rfl | rfl | rfl
  · exact p2
  · exact p3
  · exact p3
  · exact p3
  · exact p3
  · exact p307
  · exact p5879)
set_option maxRecDepth 100000 in
theorem p213441916511 : Prime 213441916511 := prime_of (g := 13) (fs := [2, 5, 73, 292386187]) (by decide +kernel) (by
  intro q hq
  simp only [List.mem_cons, List.not_mem_nil, or_false] at hq
  rcases hq with rfl | rfl | rfl | rfl
  · exact p2
  · exact p5
  · exact p73
  · exact p292386187)
set_option maxRecDepth 100000 in
theorem p1361 : Prime 1361 := prime_small (by decide +kernel)
set_option maxRecDepth 100000 in
theorem p2851 : Prime 2851 := prime_small (by decide +kernel)
set_option maxRecDepth 100000 in
theorem p3797 : Prime 3797 := prime_small (by decide +kernel)
set_option maxRecDepth 100000 in
theorem p531581 : Prime 531581 := prime_of (g := 2) (fs := [2, 2, 5, 7, 3797]) (by decide +kernel) (by
  intro q hq
  simp only [List.mem_cons, List.not_mem_nil, or_false] at hq
  rcases hq with rfl | rfl | rfl | rfl | rfl
  · exact p2
  · exact p2
  · exact p5
  · exact p7
  · exact p3797)
set_option maxRecDepth 100000 in
theorem p2551 : Prime 2551 := prime_small (by decide +kernel)
set_option maxRecDepth 100000 in
theorem p1224481 : Prime 1224481 := prime_of (g := 13) (fs := [2, 2, 2, 2, 2, 3, 5, 2551]) (by decide +kernel) (by
  intro q hq
  simp only [List.mem_cons, List.not_mem_nil, or_false] at hq
  rcases hq with rfl | rfl | rfl | rfl | rfl | rfl | rfl | rfl
  · exact p2
  · exact p2
  · exact p2
  · exact p2
  · exact p2
  · exact p3
  · exact p5
  · exact p2551)
set_option maxRecDepth 100000 in
theorem p1257559732178653 : Prime 1257559732178653 := prime_of (g := 2) (fs := [2, 2, 3, 7, 23, 531581, 1224481]) (by decide +kernel) (by
  intro q hq
  simp only [List.mem_cons, List.not_mem_nil, or_false] at hq
  rcases hq with rfl | rfl | rfl | rfl | rfl | rfl | rfl
  · exact p2
  · exact p2
  · exact p3
  · exact p7
  · exact p23
  · exact p531581
  · exact p1224481)
set_option maxRecDepth 100000 in
theorem p4434155615661930479 : Prime 4434155615661930479 := prime_of (g := 17) (fs := [2, 41, 43, 1257559732178653]) (by decide +kernel) (by
  intro q hq
  simp only [List.mem_cons, List.not_mem_nil, or_false] at hq
  rcases hq with rfl | rfl | rfl | rfl
  · exact p2
  · exact p41
  · exact p43
  · exact p1257559732178653)
set_option maxRecDepth 100000 in
theorem p172054593956031949258510691 : Prime 172054593956031949258510691 := prime_of (g := 2) (fs := [2, 5, 1361, 2851, 4434155615661930479]) (by decide +kernel) (by
  intro q hq
  simp only [List.mem_cons, List.not_mem_nil, or_false] at hq
  rcases hq with rfl | rfl | rfl | rfl | rfl
  · exact p2
  · exact p5
  · exact p1361
  · exact p2851
  · exact p4434155615661930479)
set_option maxRecDepth 100000 in
theorem p19757330305831588566944191468367130476339 : Prime 19757330305831588566944191468367130476339 := prime_of (g := 2) (fs := [2, 269, 213441916511, 172054593956031949258510691]) (by decide +kernel) (by
  intro q hq
  simp only [List.mem_cons, List.not_mem_nil, or_false] at hq
  rcases hq with rfl | rfl | rfl | rfl
  · exact p2
  · exact p269
  · exact p213441916511
  · exact p172054593956031949258510691)
set_option maxRecDepth 100000 in
theorem p276602624281642239937218680557139826668747 : Prime 276602624281642239937218680557139826668747 := prime_of (g := 2) (fs := [2, 7, 19757330305831588566944191468367130476339]) (by decide +kernel) (by
  intro q hq
  simp only [List.mem_cons, List.not_mem_nil, or_false] at hq
  rcases hq with rfl | rfl | rfl
  · exact p2
  · exact p7
  · exact p19757330305831588566944191468367130476339)
set_option maxRecDepth 100000 in
theorem p7237005577332262213973186563042994240857116359379907606001950938285454250989 : Prime 7237005577332262213973186563042994240857116359379907606001950938285454250989 := prime_of (g := 2) (fs := [2, 2, 3, 11, 198211423230930754013084525763697, 276602624281642239937218680557139826668747]) (by decide +kernel) (by
  intro q hq
  simp only [List.mem_cons, List.not_mem_nil, or_false] at hq
  rcases hq with rfl | rfl | rfl | rfl | rfl | rfl
  · exact p2
  · exact p2
  · exact p3
  · exact p11
  · exact p198211423230930754013084525763697
  · exact p276602624281642239937218680557139826668747)
def ordP : Nat := 7237005577332262213973186563042994240857116359379907606001950938285454250989
set_option maxRecDepth 100000 in
theorem ord_prime : Prime ordP := p7237005577332262213973186563042994240857116359379907606001950938285454250989

end Go.Proofs.YtceljjnohjnepaaGreatDoor.NT

namespace Go.Proofs.YtceljjnohjnepaaGreatDoor
open EG DG NT

/-- What a clamped secret is. -/
def ck (sec : ByteArray) : Nat := bytesNat (clampL sec.data.toList)
set_option maxRecDepth 100000 in
theorem mod8 (x : Nat) : x &&& 248 = x % 256 / 8 * 8 := by
  have : ∀ x : Nat, x < 256 → x &&& 248 = x / 8 * 8 := by decide
  have h1 : x &&& 248 = (x % 256) &&& 248 := by
    refine Nat.eq_of_testBit_eq fun i => ?_
    rw [Nat.testBit_and, Nat.testBit_and, show 256 = 2 ^ 8 from rfl, Nat.testBit_mod_two_pow]
    by_cases hi : i < 8
    · simp [hi]
    · have h2 : Nat.testBit 248 i = false := Nat.testBit_lt_two_pow (Nat.lt_of_lt_of_le (by decide : 248 < 2 ^ 8) (Nat.pow_le_pow_right (by decide) (by omega)))
      simp [h2]
  rw [h1]
  exact this _ (Nat.mod_lt _ (by decide))
set_option maxRecDepth 100000 in
theorem bytesNat_cons (x : UInt8) (l : List UInt8) : bytesNat (x :: l) = x.toNat + 256 * bytesNat l := by
  unfold bytesNat
  rw [List.map_cons]
  rfl
set_option maxRecDepth 100000 in
theorem ck_facts {sec : ByteArray} (h : sec.size = 32) : ck sec < 2 ^ 255 ∧ 2 ^ 254 ≤ ck sec ∧ 8 ∣ ck sec := by
  have hl : sec.data.toList.length = 32 := by simpa using h
  unfold ck clampL
  generalize sec.data.toList = l at *
  have h1 : ((l.set 0 (l.getD 0 0 &&& 248)).set 31 ((l.getD 31 0 &&& 127) ||| 64)).length = 32 := by simp [hl]
  have h2 := split_nat _ h1
  have h3 := low_lt ((l.set 0 (l.getD 0 0 &&& 248)).set 31 ((l.getD 31 0 &&& 127) ||| 64))
  have hg : ((l.set 0 (l.getD 0 0 &&& 248)).set 31 ((l.getD 31 0 &&& 127) ||| 64))[31]'(by omega) = (l.getD 31 0 &&& 127) ||| 64 := by
    rw [List.getElem_set_self]
  rw [hg] at h2
  have hor : ∀ n : Nat, n < 256 → ((n &&& 127) ||| 64) < 128 ∧ 64 ≤ ((n &&& 127) ||| 64) := by decide
  have h4 := hor (l.getD 31 0).toNat (UInt8.toNat_lt _)
  have h5 : ((l.getD 31 0 &&& 127) ||| 64).toNat = ((l.getD 31 0).toNat &&& 127) ||| 64 := by rw [UInt8.toNat_or, UInt8.toNat_and]; rfl
  rw [h5] at h2
  refine ⟨?_, ?_, ?_⟩
  · rw [h2]
    generalize bytesNat (List.take 31 _) = lo at *
    generalize ((l.getD 31 0).toNat &&& 127) ||| 64 = x at *
    clear h2 h5 hor
    rw [show (2 : Nat) ^ 255 = 128 * t248 by decide]
    unfold t248 at *
    omega
  · rw [h2]
    generalize bytesNat (List.take 31 _) = lo at *
    generalize ((l.getD 31 0).toNat &&& 127) ||| 64 = x at *
    clear h2 h5 hor
    rw [show (2 : Nat) ^ 254 = 64 * t248 by decide]
    unfold t248 at *
    omega
  · match l, hl with
    | a :: r, hr =>
      rw [List.getD_cons_zero, List.set_cons_zero, show (31 : Nat) = 30 + 1 from rfl, List.set_cons_succ, bytesNat_cons]
      refine Nat.dvd_add ?_ (Nat.dvd_trans (by decide : 8 ∣ 256) (Nat.dvd_mul_right _ _))
      have : (a &&& 248).toNat = a.toNat % 256 / 8 * 8 := by rw [UInt8.toNat_and, ← mod8]; rfl
      rw [this]
      exact Nat.dvd_mul_left _ _
set_option maxRecDepth 100000 in
theorem oL_prime : Prime oL := ord_prime
set_option maxRecDepth 100000 in
theorem ck_cop {sec : ByteArray} (h : sec.size = 32) : ¬ oL ∣ ck sec := by
  obtain ⟨h1, h2, h3⟩ := ck_facts h
  generalize ck sec = k at *
  intro hd
  have hc : Nat.Coprime 8 oL := by decide +kernel
  have h4 : 8 * oL ∣ k := Nat.Coprime.mul_dvd_of_dvd_of_dvd hc h3 hd
  obtain ⟨m, hm⟩ := h4
  have h6 : 2 ^ 255 < 8 * oL := by decide +kernel
  have h7 : (2 : Nat) ^ 254 ≠ 0 := by decide +kernel
  rcases Nat.eq_zero_or_pos m with h0 | h0
  · subst h0; omega
  · have : 8 * oL ≤ 8 * oL * m := Nat.le_mul_of_pos_right _ h0
    omega
set_option maxRecDepth 100000 in
/-- A multiple of the base point that is the zero point, is one by the order. -/
theorem mul_zero_dvd {n : Nat} (h : Pt.mul n bP = Pt.zero) : oL ∣ n := by
  apply Decidable.byContradiction
  intro hn
  have hg : Nat.gcd oL n = 1 := oL_prime.coprime hn
  have key : ∀ a b : Nat, Pt.mul a bP = Pt.zero → Pt.mul b bP = Pt.zero → Pt.mul (Nat.gcd a b) bP = Pt.zero := by
    intro a b
    induction a, b using Nat.gcd.induction with
    | H0 b => intro _ h2; rw [Nat.gcd_zero_left]; exact h2
    | H1 a b ha ih =>
      intro h1 h2
      rw [Nat.gcd_rec]
      refine ih ?_ h1
      rw [Pt.mul_mod a bP h1]
      exact h2
  have h1 := key oL n base_order h
  rw [hg, Pt.mul_one] at h1
  have := congrArg (fun q : Pt cv => q.x.val) h1
  revert this
  decide +kernel

end Go.Proofs.YtceljjnohjnepaaGreatDoor

namespace Go.Proofs.YtceljjnohjnepaaGreatDoor
open EG

def rm (a b : Nat) : Nat := a * b % pP
def ra (a b : Nat) : Nat := (a + b) % pP
def rs (a b : Nat) : Nat := (a + (pP - b)) % pP
set_option maxRecDepth 100000 in
theorem rm_lt (a b : Nat) : rm a b < pP := Nat.mod_lt _ (by decide)
set_option maxRecDepth 100000 in
theorem ra_lt (a b : Nat) : ra a b < pP := Nat.mod_lt _ (by decide)
set_option maxRecDepth 100000 in
theorem rs_lt (a b : Nat) : rs a b < pP := Nat.mod_lt _ (by decide)
set_option maxRecDepth 100000 in
theorem fprm (a b : Nat) : fp (rm a b) = fp a * fp b := by rw [← fp_mul]; exact fp_mod _
set_option maxRecDepth 100000 in
theorem fpra (a b : Nat) : fp (ra a b) = fp a + fp b := by rw [← fp_add]; exact fp_mod _
set_option maxRecDepth 100000 in
theorem fprs {a b : Nat} (hb : b < pP) : fp (rs a b) = fp a - fp b := by
  have h : fp (rs a b) + fp b = fp a := by
    unfold rs
    rw [show pP = NT.P from rfl, fp_mod, ← fp_add, fp_eq, Nat.add_assoc, Nat.sub_add_cancel (show b ≤ NT.P from Nat.le_of_lt hb), Nat.add_mod_right]
  rw [← h]
  grind
set_option maxRecDepth 100000 in
theorem fpri {a : Nat} (h : a < pP) : fp (rInv a) = finv (fp a) := by
  have e : invN a % pP = rInv a := by rw [inv_mod, Nat.mod_eq_of_lt h]
  rw [← fpi a, ← e]
  exact (fp_mod _)
set_option maxRecDepth 100000 in
theorem fp_lt {a : Nat} (h : a < pP) : (fp a).val = a := Nat.mod_eq_of_lt h
set_option maxRecDepth 100000 in
theorem dN_pP : dN < pP := by decide +kernel

/-- The three numbers of a point. -/
structure R3 where
  x : Nat
  y : Nat
  z : Nat
structure R3.bd (s : R3) : Prop where
  x : s.x < pP
  y : s.y < pP
  z : s.z < pP
structure R3.ok (s : R3) (p : Pt cv) : Prop where
  bd : s.bd
  prj : Prj (fp s.x) (fp s.y) (fp s.z) p
namespace R3
def zero : R3 := ⟨0, 1, 1⟩
def aA (s u : R3) : Nat := rm s.z u.z
def aB (s u : R3) : Nat := rm (aA s u) (aA s u)
def aC (s u : R3) : Nat := rm s.x u.x
def aD (s u : R3) : Nat := rm s.y u.y
def aE (s u : R3) : Nat := rm (rm dN (aC s u)) (aD s u)
def aF (s u : R3) : Nat := rs (aB s u) (aE s u)
def aG (s u : R3) : Nat := ra (aB s u) (aE s u)
def aH (s u : R3) : Nat := rs (rs (rm (ra s.x s.y) (ra u.x u.y)) (aC s u)) (aD s u)
def add (s u : R3) : R3 := ⟨rm (rm (aA s u) (aF s u)) (aH s u), rm (rm (aA s u) (aG s u)) (ra (aD s u) (aC s u)), rm (aF s u) (aG s u)⟩
def same (s u : R3) : Bool := decide (rm s.x u.z = rm u.x s.z) && decide (rm s.y u.z = rm u.y s.z)
def on (s : R3) : Bool := decide (rm (rs (rm s.y s.y) (rm s.x s.x)) (rm s.z s.z) = ra (rm (rm s.z s.z) (rm s.z s.z)) (rm (rm dN (rm s.x s.x)) (rm s.y s.y)))
def bytes (s : R3) : ByteArray := encB (rm s.y (rInv s.z)) (decide (rm s.x (rInv s.z) % 2 = 1))
def timesN (s : R3) (n : Nat) : Nat → R3
  | 0 => zero
  | k + 1 => if bitN n (255 - k) = 1 then ((timesN s n k).add (timesN s n k)).add s else (timesN s n k).add (timesN s n k)
def times (s : R3) (n : Nat) : R3 := timesN s n 256
variable {s u : R3} {p q : Pt cv}
set_option maxRecDepth 100000 in
theorem zero_bd : zero.bd := ⟨by decide, by decide, by decide⟩
set_option maxRecDepth 100000 in
theorem add_bd (s u : R3) : (s.add u).bd := ⟨rm_lt _ _, rm_lt _ _, rm_lt _ _⟩
set_option maxRecDepth 100000 in
theorem zero_ok : zero.ok Pt.zero := ⟨zero_bd, Prj.zero⟩
set_option maxRecDepth 100000 in
theorem add_ok (h : s.ok p) (k : u.ok q) : (s.add u).ok (p.add q) := by
  refine ⟨add_bd s u, ?_⟩
  have := Prj.add h.prj k.prj (a := fp (aA s u)) (c := fp (aC s u)) (d := fp (aD s u)) (e := fp (aE s u)) (fprm _ _) (fprm _ _) (fprm _ _) (by unfold aE; rw [fprm, fprm]; rfl)
  show Prj (fp (rm _ _)) (fp (rm _ _)) (fp (rm _ _)) _
  have eB : fp (aB s u) = fp (aA s u) * fp (aA s u) := fprm _ _
  rw [fprm, fprm, fprm, fprm, fprm, fpra]
  unfold aF aG aH
  rw [fprs (show aE s u < pP from rm_lt _ _), fpra, fprs (show aD s u < pP from rm_lt _ _), fprs (show aC s u < pP from rm_lt _ _), fprm, fpra, fpra, eB]
  exact this
set_option maxRecDepth 100000 in
theorem timesN_bd (_h : s.bd) (n : Nat) : ∀ k, (timesN s n k).bd
  | 0 => zero_bd
  | k + 1 => by unfold timesN; split <;> exact add_bd _ _
set_option maxRecDepth 100000 in
theorem times_bd (h : s.bd) (n : Nat) : (times s n).bd := timesN_bd h n 256
set_option maxRecDepth 100000 in
theorem timesN_ok (h : s.ok p) {n : Nat} (hn : n < 2 ^ 256) : ∀ k, k ≤ 256 → (timesN s n k).ok (Pt.mul (n / 2 ^ (256 - k)) p)
  | 0, _ => by
    rw [Nat.div_eq_of_lt hn]
    exact zero_ok
  | k + 1, hk => by
    have ih := timesN_ok h hn k (by omega)
    have h2 := add_ok ih ih
    rw [show 256 - (k + 1) = 255 - k by omega, P4.bit_split n (by omega), P4.mul_bit]
    unfold timesN
    have hb := bitN_lt n (255 - k)
    split
    · rename_i h1
      rw [h1, show Pt.mul 1 p = p by rw [show (1 : Nat) = 0 + 1 from rfl, Pt.mul_succ]; exact Pt.zero_add p]
      exact add_ok h2 h
    · rename_i h1
      rw [show bitN n (255 - k) = 0 by omega, show Pt.mul 0 p = Pt.zero from rfl, Pt.add_zero]
      exact h2
set_option maxRecDepth 100000 in
theorem times_ok (h : s.ok p) {n : Nat} (hn : n < 2 ^ 256) : (times s n).ok (Pt.mul n p) := by
  have := timesN_ok h hn 256 (by omega)
  rw [Nat.sub_self, Nat.pow_zero, Nat.div_one] at this
  exact this
set_option maxRecDepth 100000 in
theorem fp_inj {a b : Nat} (ha : a < pP) (hb : b < pP) : fp a = fp b ↔ a = b := by
  rw [fp_same, Nat.mod_eq_of_lt ha, Nat.mod_eq_of_lt hb]
set_option maxRecDepth 100000 in
theorem same_iff (h : s.ok p) (k : u.ok q) : s.same u = true ↔ p = q := by
  have := Prj.same h.prj k.prj
  unfold same
  rw [← fprm, ← fprm, ← fprm, ← fprm, fp_inj (rm_lt _ _) (rm_lt _ _), fp_inj (rm_lt _ _) (rm_lt _ _)] at this
  rw [← Bool.decide_and, decide_eq_true_eq]
  exact this
set_option maxRecDepth 100000 in
theorem ok_bytes (h : s.ok p) : s.bytes = ptB p := by
  have := Prj.coords h.prj
  rw [show cv.inv (fp s.z) = fp (rInv s.z) from (fpri h.bd.z).symm, ← fprm, ← fprm] at this
  unfold bytes ptB
  rw [← this.1, ← this.2, fp_lt (rm_lt _ _), fp_lt (rm_lt _ _)]
set_option maxRecDepth 100000 in
theorem ok_on (h : s.ok p) : s.on = true := by
  unfold on
  rw [decide_eq_true_eq, ← fp_inj (rm_lt _ _) (ra_lt _ _), fprm, fprs (rm_lt _ _), fprm, fprm, fprm, fpra, fprm, fprm, fprm, fprm, fprm, fprm]
  have on := p.on
  unfold onC at on
  rw [cvD] at on
  rw [h.prj.hx, h.prj.hy]
  generalize fp s.z = z at *
  generalize fp dN = d at *
  have e : (p.y * z * (p.y * z) - p.x * z * (p.x * z)) * (z * z) = (p.y * p.y - p.x * p.x) * (z * z * (z * z)) := by clear on; grind
  rw [e, on]
  clear e on
  grind
end R3

end Go.Proofs.YtceljjnohjnepaaGreatDoor

namespace Go.Proofs.YtceljjnohjnepaaGreatDoor
open EG DG NT

set_option maxRecDepth 100000 in
/-- A square has roots. -/
theorem is_sq {a x : Nat} (h : a % pP = x * x % pP) : rIs (a % pP) = true := by
  rw [h]
  by_cases h0 : x % pP = 0
  · rw [Nat.mul_mod, h0, Nat.zero_mul, Nat.zero_mod]; exact is0
  · obtain ⟨j, hj⟩ := g_log (Nat.pos_of_ne_zero h0) (Nat.mod_lt x (by decide))
    rw [Nat.mul_mod, ← hj, ← g_add, is_g]
    exact decide_eq_true (by omega)
set_option maxRecDepth 100000 in
theorem mod0_sq {x : Nat} (h : x < pP) (h0 : x * x % pP = 0) : x = 0 := by
  have h1 : fp x * fp x = 0 := by rw [← fp_mul]; apply Fin.ext; exact h0
  have h2 : fp x = 0 := by rcases cv.mul_zero h1 with h | h <;> exact h
  have h3 := congrArg Fin.val h2
  rw [fp_lt h] at h3
  exact h3
set_option maxRecDepth 100000 in
/-- A point's bytes are read as it. -/
theorem u_pt (p : Pt cv) : dU p.y.val % pP = p.x.val * p.x.val % pP := by
  rw [← fp_same, fpU (Nat.lt_trans p.y.isLt (by decide)), fp_mul, fp_of, fp_of]
  have h2 := cv.hinv _ (Crv.den_ne cv p.y)
  have on := p.on
  unfold onC at on
  generalize p.x = x at *
  generalize p.y = y at *
  generalize cv.D = d at *
  generalize cv.inv (y * y * d + 1) = v at *
  have e : y * y - 1 = x * x * (y * y * d + 1) := by clear h2; grind
  rw [e]
  have e2 : x * x * (y * y * d + 1) * v = x * x * ((y * y * d + 1) * v) := by clear h2 e on; grind
  rw [e2, h2]
  clear h2 e e2 on
  grind
set_option maxRecDepth 100000 in
theorem dY_pt (p : Pt cv) : dY (ptB p) = p.y.val := by
  have hy : p.y.val < t255 := Nat.lt_trans p.y.isLt pP_255
  unfold dY ptB
  rw [enc_nat hy]
  generalize decide (p.x.val % 2 = 1) = od
  generalize p.y.val = n at *
  unfold encN t255 at *
  cases od <;> simp <;> omega
set_option maxRecDepth 100000 in
theorem dOd_pt (p : Pt cv) : dOd (ptB p) = decide (p.x.val % 2 = 1) := by
  have hy : p.y.val < t255 := Nat.lt_trans p.y.isLt pP_255
  unfold dOd ptB
  rw [enc_nat hy]
  generalize decide (p.x.val % 2 = 1) = od
  generalize p.y.val = n at *
  unfold encN t255 at *
  cases od <;> simp <;> omega
set_option maxRecDepth 100000 in
theorem ptB_size (p : Pt cv) : (ptB p).size = 32 := enc_size _ _
set_option maxRecDepth 100000 in
theorem dOk_pt (p : Pt cv) : dOk (ptB p) = true := by
  unfold dOk
  rw [dY_pt, dOd_pt, decide_eq_true (ptB_size p), decide_eq_true (show p.y.val < pP from p.y.isLt), Bool.true_and, Bool.and_true]
  have hu := u_pt p
  have hl : dU p.y.val < p2 := dU_lt (Nat.lt_trans p.y.isLt (by decide))
  by_cases h0 : dU p.y.val % pP = 0
  · rw [ok_nought hl _ h0]
    rw [h0] at hu
    have hx : p.x.val = 0 := mod0_sq p.x.isLt hu.symm
    rw [hx]; rfl
  · rw [ok_is hl _ h0]
    exact is_sq hu
set_option maxRecDepth 100000 in
theorem dPt_pt (p : Pt cv) : dPt (ptB p) (dOk_pt p) = p := ptB_inj (dPt_bytes (dOk_pt p))
set_option maxRecDepth 100000 in
theorem dPt_eq {s : ByteArray} (h : dOk s = true) {p : Pt cv} (hs : s = ptB p) : dPt s h = p := by
  subst hs; exact dPt_pt p

set_option maxRecDepth 100000 in
theorem ordL_oL : ordL = oL := rfl
set_option maxRecDepth 100000 in
theorem mul_ord (n : Nat) : Pt.mul (n % ordL) bP = Pt.mul n bP := Pt.mul_mod oL bP base_order n
set_option maxRecDepth 100000 in
theorem mul_inj {m n : Nat} (h : Pt.mul m bP = Pt.mul n bP) : m % ordL = n % ordL := by
  have key : ∀ a d : Nat, Pt.mul a bP = Pt.mul (a + d) bP → a % ordL = (a + d) % ordL := by
    intro a d h
    rw [Pt.mul_add] at h
    have h2 : (Pt.mul a bP).add Pt.zero = (Pt.mul a bP).add (Pt.mul d bP) := by rw [Pt.add_zero]; exact h
    obtain ⟨c, hc⟩ := mul_zero_dvd (Pt.add_left h2).symm
    rw [hc, ordL_oL, Nat.add_mul_mod_self_left]
  rcases Nat.le_total m n with hh | hh
  · obtain ⟨d, rfl⟩ : ∃ d, n = m + d := ⟨n - m, by omega⟩
    exact key m d h
  · obtain ⟨d, rfl⟩ : ∃ d, m = n + d := ⟨m - n, by omega⟩
    exact (key n d h.symm).symm

/-- A digest, as a number modulo the order. -/
def redN (l : List UInt8) : Nat := bytesNat (SH.sha l) % ordL
set_option maxRecDepth 100000 in
theorem redN_lt (l : List UInt8) : redN l < ordL := Nat.mod_lt _ (by decide)
/-- What a secret holds: its number, its prefix. -/
def sgH (sec : ByteArray) : ByteArray := ⟨(SH.sha sec.data.toList).toArray⟩
set_option maxRecDepth 100000 in
theorem sgH_size (sec : ByteArray) : (sgH sec).size = 64 := by
  show (SH.sha sec.data.toList).toArray.size = 64
  simp [SH.sha_length]
def sgL (sec : ByteArray) : ByteArray := (sgH sec).extract 0 32
def sgPre (sec : ByteArray) : ByteArray := (sgH sec).extract 32 64
set_option maxRecDepth 100000 in
theorem sgL_size (sec : ByteArray) : (sgL sec).size = 32 := by unfold sgL; rw [ByteArray.size_extract, sgH_size]; rfl
set_option maxRecDepth 100000 in
theorem sgPre_size (sec : ByteArray) : (sgPre sec).size = 32 := by unfold sgPre; rw [ByteArray.size_extract, sgH_size]; rfl
def sgA (sec : ByteArray) : Nat := ck (sgL sec) % ordL
set_option maxRecDepth 100000 in
theorem sgA_lt (sec : ByteArray) : sgA sec < ordL := Nat.mod_lt _ (by decide)
set_option maxRecDepth 100000 in
theorem sgA_cop (sec : ByteArray) : ¬ oL ∣ sgA sec := fun h => by
  refine ck_cop (sgL_size sec) ?_
  unfold sgA at h
  exact (Nat.dvd_mod_iff (Nat.dvd_refl oL)).1 h
def pubB (sec : ByteArray) : ByteArray := ptB (Pt.mul (sgA sec) bP)
def sgR (sec s : ByteArray) : Nat := redN ((sgPre sec).data.toList ++ s.data.toList)
def sgQ (sec s : ByteArray) : ByteArray := ptB (Pt.mul (sgR sec s) bP)
def sgK (sec s : ByteArray) : Nat := redN ((sgQ sec s).data.toList ++ ((pubB sec).data.toList ++ s.data.toList))
def sgS (sec s : ByteArray) : Nat := (sgK sec s * sgA sec + sgR sec s) % ordL
set_option maxRecDepth 100000 in
theorem sgS_lt (sec s : ByteArray) : sgS sec s < ordL := Nat.mod_lt _ (by decide)
def n32B (n : Nat) : ByteArray := ⟨(natBytes n 32).toArray⟩
set_option maxRecDepth 100000 in
theorem n32B_size (n : Nat) : (n32B n).size = 32 := by show (natBytes n 32).toArray.size = 32; simp [natBytes_length]
def sigB (sec s : ByteArray) : ByteArray := sgQ sec s ++ n32B (sgS sec s)
set_option maxRecDepth 100000 in
theorem pubB_size (sec : ByteArray) : (pubB sec).size = 32 := ptB_size _
set_option maxRecDepth 100000 in
theorem sgQ_size (sec s : ByteArray) : (sgQ sec s).size = 32 := ptB_size _
set_option maxRecDepth 100000 in
theorem sigB_size (sec s : ByteArray) : (sigB sec s).size = 64 := by unfold sigB; rw [ByteArray.size_append, sgQ_size, n32B_size]
set_option maxRecDepth 100000 in
theorem ext_left {a b : ByteArray} {n : Nat} (h : a.size = n) : (a ++ b).extract 0 n = a := by
  apply ba_ext
  rw [ByteArray.data_extract, ByteArray.data_append, Array.toList_extract, Array.toList_append, List.extract_eq_take_drop]
  have hl : a.data.toList.length = n := by simpa using h
  simp [← hl]
set_option maxRecDepth 100000 in
theorem ext_right {a b : ByteArray} {n m : Nat} (h : a.size = n) (hm : n + b.size = m) : (a ++ b).extract n m = b := by
  apply ba_ext
  rw [ByteArray.data_extract, ByteArray.data_append, Array.toList_extract, Array.toList_append, List.extract_eq_take_drop]
  have hl : a.data.toList.length = n := by simpa using h
  have hb : b.data.toList.length = b.size := by simp
  have e : m - n = b.data.toList.length := by omega
  have hd : List.drop n a.data.toList = [] := List.drop_of_length_le (by omega)
  rw [List.drop_append, hd, List.nil_append, hl, Nat.sub_self, List.drop_zero, e, List.take_length]
/-- Which signatures are verified. -/
def vrNum (pub s sig : ByteArray) : Nat := redN ((sig.extract 0 32).data.toList ++ (pub.data.toList ++ s.data.toList))
def vrOk (pub s sig : ByteArray) : Prop :=
  sig.size = 64 ∧ ocanB (sig.extract 32 64) = true ∧ ∃ (h : dOk pub = true) (h2 : dOk (sig.extract 0 32) = true), Pt.mul 8 (dPt pub h) ≠ Pt.zero ∧
    Pt.mul (bytesNat (sig.extract 32 64).data.toList % ordL) bP = (dPt (sig.extract 0 32) h2).add (Pt.mul (vrNum pub s sig) (dPt pub h))
open Classical in
noncomputable def vrB (pub s sig : ByteArray) : Bool := decide (vrOk pub s sig)
open Classical in
set_option maxRecDepth 100000 in
theorem vrB_true {pub s sig : ByteArray} (h : vrOk pub s sig) : vrB pub s sig = true := by unfold vrB; exact decide_eq_true h
open Classical in
set_option maxRecDepth 100000 in
theorem vrB_false {pub s sig : ByteArray} (h : ¬ vrOk pub s sig) : vrB pub s sig = false := by unfold vrB; exact decide_eq_false h
set_option maxRecDepth 100000 in
theorem ocan_n {n : Nat} (h : n < ordL) : ocanB (n32B n) = true := by
  unfold ocanB
  refine decide_eq_true ⟨n32B_size n, ?_⟩
  show bytesNat (natBytes n 32) < ordL
  rw [bytesNat_natBytes, Nat.mod_eq_of_lt (Nat.lt_trans h (by decide))]
  exact h
set_option maxRecDepth 100000 in
theorem nat_n {n : Nat} (h : n < 256 ^ 32) : bytesNat (n32B n).data.toList = n := by
  show bytesNat (natBytes n 32) = n
  rw [bytesNat_natBytes, Nat.mod_eq_of_lt h]
set_option maxRecDepth 100000 in
theorem ordL_256' : ordL < 256 ^ 32 := by decide
set_option maxRecDepth 100000 in
theorem pub8_ne (sec : ByteArray) : Pt.mul 8 (Pt.mul (sgA sec) bP) ≠ Pt.zero := fun h => by
  rw [Pt.mul_mul] at h
  rcases oL_prime.dvd_mul (mul_zero_dvd h) with h1 | h1
  · revert h1; decide +kernel
  · exact sgA_cop sec h1
set_option maxRecDepth 100000 in
/-- What is signed is verified. -/
theorem sign_eq (sec s : ByteArray) (k : Nat) : Pt.mul ((k * sgA sec + sgR sec s) % ordL) bP = (Pt.mul (sgR sec s) bP).add (Pt.mul k (Pt.mul (sgA sec) bP)) := by
  rw [mul_ord, Pt.mul_add, Pt.add_comm, Pt.mul_mul]
set_option maxRecDepth 100000 in
theorem sig_l (sec s : ByteArray) : (sigB sec s).extract 0 32 = sgQ sec s := ext_left (sgQ_size sec s)
set_option maxRecDepth 100000 in
theorem sig_r (sec s : ByteArray) : (sigB sec s).extract 32 64 = n32B (sgS sec s) := ext_right (sgQ_size sec s) (by rw [n32B_size])
set_option maxRecDepth 100000 in
theorem vr_sign (sec s t : ByteArray) : vrOk (pubB sec) t (sigB sec s) ↔ Pt.mul (sgK sec s) (Pt.mul (sgA sec) bP) = Pt.mul (redN ((sgQ sec s).data.toList ++ ((pubB sec).data.toList ++ t.data.toList))) (Pt.mul (sgA sec) bP) := by
  unfold vrOk vrNum
  rw [sig_l, sig_r]
  have e1 : ∀ h, dPt (pubB sec) h = Pt.mul (sgA sec) bP := fun h => dPt_eq h rfl
  have e2 : ∀ h, dPt (sgQ sec s) h = Pt.mul (sgR sec s) bP := fun h => dPt_eq h rfl
  have e3 : bytesNat (n32B (sgS sec s)).data.toList % ordL = sgS sec s := by
    rw [nat_n (Nat.lt_trans (sgS_lt sec s) ordL_256'), Nat.mod_eq_of_lt (sgS_lt sec s)]
  have e4 : Pt.mul (sgS sec s) bP = (Pt.mul (sgR sec s) bP).add (Pt.mul (sgK sec s) (Pt.mul (sgA sec) bP)) := sign_eq sec s _
  constructor
  · rintro ⟨_, _, h, h2, _, h4⟩
    rw [e1, e2, e3, e4] at h4
    exact Pt.add_left h4
  · intro h
    have hp : dOk (pubB sec) = true := dOk_pt _
    have hq : dOk (sgQ sec s) = true := dOk_pt _
    refine ⟨sigB_size sec s, ocan_n (sgS_lt sec s), hp, hq, ?_, ?_⟩
    · rw [e1]; exact pub8_ne sec
    · rw [e1, e2, e3, e4, h]
set_option maxRecDepth 100000 in
theorem vr_self (sec s : ByteArray) : vrOk (pubB sec) s (sigB sec s) := (vr_sign sec s s).2 rfl
set_option maxRecDepth 100000 in
theorem vr_other {sec s t : ByteArray} (h : vrOk (pubB sec) t (sigB sec s)) : sgK sec s = redN ((sgQ sec s).data.toList ++ ((pubB sec).data.toList ++ t.data.toList)) := by
  have h1 := (vr_sign sec s t).1 h
  have hk : sgK sec s < ordL := redN_lt _
  have hk2 := redN_lt ((sgQ sec s).data.toList ++ ((pubB sec).data.toList ++ t.data.toList))
  generalize redN ((sgQ sec s).data.toList ++ ((pubB sec).data.toList ++ t.data.toList)) = k2 at *
  generalize sgK sec s = k at *
  rw [Pt.mul_mul, Pt.mul_mul] at h1
  have h2 := mul_inj h1
  have hc := sgA_cop sec
  generalize sgA sec = a at *
  have key : ∀ m d : Nat, m + d < ordL → m * a % ordL = (m + d) * a % ordL → d = 0 := by
    intro m d hd he
    have h3 : oL ∣ d * a := by
      have h4 : ((m + d) * a - m * a) % ordL = 0 := Nat.sub_mod_eq_zero_of_mod_eq he.symm
      rw [Nat.add_mul, Nat.add_sub_cancel_left] at h4
      exact Nat.dvd_of_mod_eq_zero h4
    rcases oL_prime.dvd_mul h3 with h5 | h5
    · have : d < oL := by rw [ordL_oL] at hd; omega
      exact Nat.eq_zero_of_dvd_of_lt h5 this
    · exact absurd h5 hc
  rcases Nat.le_total k k2 with hh | hh
  · obtain ⟨d, rfl⟩ : ∃ d, k2 = k + d := ⟨k2 - k, by omega⟩
    have := key k d hk2 h2
    omega
  · obtain ⟨d, rfl⟩ : ∃ d, k = k2 + d := ⟨k - k2, by omega⟩
    have := key k2 d hk h2.symm
    omega
/-- A key of few points. -/
def oneB : ByteArray := encB 1 false
set_option maxRecDepth 100000 in
theorem one_pt : oneB = ptB (Pt.zero : Pt cv) := by decide +kernel
set_option maxRecDepth 100000 in
theorem vr_one (s sig : ByteArray) : ¬ vrOk oneB s sig := by
  rintro ⟨_, _, h, _, h3, _⟩
  rw [dPt_eq h one_pt, Pt.mul_of_zero] at h3
  exact h3 rfl
set_option maxRecDepth 100000 in
/-- A number that is not below the order. -/
theorem vr_big {pub s sig : ByteArray} (h : ordL ≤ bytesNat (sig.extract 32 64).data.toList) : ¬ vrOk pub s sig := by
  rintro ⟨_, h2, _⟩
  unfold ocanB at h2
  have := (of_decide_eq_true h2).2
  omega
set_option maxRecDepth 100000 in
theorem vr_short {pub s sig : ByteArray} (h : sig.size ≠ 64) : ¬ vrOk pub s sig := fun hh => h hh.1

end Go.Proofs.YtceljjnohjnepaaGreatDoor
