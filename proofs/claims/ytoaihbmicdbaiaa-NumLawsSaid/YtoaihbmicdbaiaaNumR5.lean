/- The walks of the document's numbers: Small, Add, Sub, Mul. -/
import Derived.Test.YtoaihbmicdbaiaaNumR4
namespace Go.Proofs.Ytoaihbmicdbaiaa
open Go.RowKit DG
attribute [local go_sem ↓] exl_Num exs_Num exl_A19 exs_A19
                 attribute [local go_sem] ldr_Num str_Num ldr_A19 str_A19

theorem small_row (n : Nat) (h : n < 4294967296) : nine n = #[.int .u64 ((n % 1073741824 : Nat) : Int), .int .u64 ((n / 1073741824 : Nat) : Int), .int .u64 0, .int .u64 0, .int .u64 0, .int .u64 0, .int .u64 0, .int .u64 0, .int .u64 0] := by
  have e1 : n / 1073741824 % 1073741824 = n / 1073741824 := Nat.mod_eq_of_lt (by omega)
  have e2 : n / 1073741824 / 1073741824 = 0 := by omega
  unfold nine B30
  simp only [digs, e2, Nat.zero_div, Nat.zero_mod, e1]
  rfl
set_option maxHeartbeats 400000 in
theorem ref_Small (n : Nat) (W : World) (h : n < 4294967296) : Calls Try.prog 19 #[.int .u32 (n : Int)] W fun e w' => e = .returned (.agg (nine n)) ∧ Below W.heap.size W w' := by
  rw [small_row n h]
  have ha := and30 n (by omega)
  go_enter Try.func19, Try.ntmps19
  go_wp2_with fail
  refine bodyPost_ret (v := .agg (#[.int .u64 ((n : Int) % 1073741824), .int .u64 ((n : Int) / 1073741824), .int .u64 0, .int .u64 0, .int .u64 0, .int .u64 0, .int .u64 0, .int .u64 0, .int .u64 0])) (results_cell_row Try.results19 _ _ (W.heap.size) 30 (#[.int .u64 ((n : Int) % 1073741824), .int .u64 ((n : Int) / 1073741824), .int .u64 0, .int .u64 0, .int .u64 0, .int .u64 0, .int .u64 0, .int .u64 0, .int .u64 0]) (0, 0) _ (by rfl) (by rw [← hget_eq]; go_simp) Try.underlying30 rfl (by rw [info_Num]; go_simp)) rfl ?_
  exact ⟨rfl, by repeat (first | exact Below.refl _ _ | exact below_new _ | assumption | refine Below.drew ?_ | refine Below.drewN ?_ _ | refine below_alloc ?_ _)⟩

attribute [local go_sem] to_nine0

set_option maxHeartbeats 1000000 in
theorem ref_Add (a b : Nat) (W : World) (ha : a < pP) (hb : b ≤ pP) : Calls Try.prog 23 #[.agg (nine a), .agg (nine b)] W fun e w' => e = .returned (.agg (nine ((a + b) % pP))) ∧ Below W.heap.size W w' := by
  obtain ⟨la, hla⟩ : ∃ l, digs B30 a 9 = l := ⟨_, rfl⟩
  obtain ⟨lb, hlb⟩ : ∃ l, digs B30 b 9 = l := ⟨_, rfl⟩
  have va : val B30 la = a := by rw [← hla]; exact val_nine (by unfold pP at *; omega)
  have vb : val B30 lb = b := by rw [← hlb]; exact val_nine (by unfold pP at *; omega)
  have la9 : la.length = 9 := by rw [← hla, digs_length]
  have lb9 : lb.length = 9 := by rw [← hlb, digs_length]
  have aa : All B30 la := by rw [← hla]; exact digs_all (by decide) _ _
  have ab : All B30 lb := by rw [← hlb]; exact digs_all (by decide) _ _
  unfold nine
  rw [hla, hlb]
  have hsa : (ints .u64 la).size = 9 := by rw [ints_size, la9]
  have hsb : (ints .u64 lb).size = 9 := by rw [ints_size, lb9]
  have VA := hid va
  have VB := hid vb
  have LA := hid la9
  have LB := hid lb9
  clear hla hlb va vb la9 lb9
  go_enter Try.func23, Try.ntmps23
  go_upto_region 2 with (fail)
  obtain ⟨N, hN⟩ : ∃ N, W.heap.size = N := ⟨_, rfl⟩
  obtain ⟨w1, hw1⟩ : ∃ w1, (((W.alloc (.cells (ints .u64 la) 30)).alloc (.cells (ints .u64 lb) 30)).alloc (.cells (nine 0) 30)).alloc (.cells (ints .u64 [0, 0, 0, 0, 0, 0, 0, 0, 0, 0, 0, 0, 0, 0, 0, 0, 0, 0, 0]) 57) = w1 := ⟨_, rfl⟩
  have fA : w1.heap[N]? = some (.cells (ints .u64 la) 30 (0, 0)) := by rw [← hw1, ← hN]; exact alloc_old (alloc_old (alloc_old (alloc_at _ _)))
  have fB : w1.heap[N + 1]? = some (.cells (ints .u64 lb) 30 (0, 0)) := by rw [← hw1, ← hN]; exact alloc_old (alloc_old (alloc_at' (by simp) _))
  have fZ : w1.heap[N + 1 + 1]? = some (.cells (nine 0) 30 (0, 0)) := by rw [← hw1, ← hN]; exact alloc_old (alloc_at' (by simp) _)
  have fT : w1.heap[N + 1 + 1 + 1]? = some (.cells (ints .u64 [0, 0, 0, 0, 0, 0, 0, 0, 0, 0, 0, 0, 0, 0, 0, 0, 0, 0, 0]) 57 (0, 0)) := by rw [← hw1, ← hN]; exact alloc_at' (by simp) _
  have b1 : Hid (Below W.heap.size W w1) := by rw [← hw1]; repeat (first | exact Below.refl _ _ | exact below_new _ | assumption | refine Below.drew ?_ | refine Below.drewN ?_ _ | refine below_alloc ?_ _)
  change Code.wp _ _ _ _ ((((W.alloc (.cells (ints .u64 la) 30)).alloc (.cells (ints .u64 lb) 30)).alloc (.cells (nine 0) 30)).alloc (.cells (ints .u64 [0, 0, 0, 0, 0, 0, 0, 0, 0, 0, 0, 0, 0, 0, 0, 0, 0, 0, 0]) 57))
  rw [hw1, hN]
  have HN := hid hN
  clear hw1 hN
  go_wp2_with fail
  go_loopw [6] (fun i wr => ∃ (k : Nat) (t : List Nat), k ≤ 9 ∧ i = .int .i64 (k : Int) ∧ t.length = 19 ∧ All 2147483648 t ∧ val B30 t = val B30 (la.take k) + val B30 (lb.take k) ∧ (∀ m, k ≤ m → t.getD m 0 = 0) ∧ wr.heap[N]? = some (.cells (ints .u64 la) 30 (0, 0)) ∧ wr.heap[N + 1]? = some (.cells (ints .u64 lb) 30 (0, 0)) ∧ wr.heap[N + 1 + 1]? = some (.cells (nine 0) 30 (0, 0)) ∧ wr.heap[N + 1 + 1 + 1]? = some (.cells (ints .u64 t) 57 (0, 0)) ∧ Below W.heap.size W wr) (fun i _ => (9 - intOf i).toNat)
  case atStart => exact ⟨0, [0, 0, 0, 0, 0, 0, 0, 0, 0, 0, 0, 0, 0, 0, 0, 0, 0, 0, 0], by omega, rfl, rfl, by exact all_replicate 19 (by decide), by simp [val], fun m _ => by (match m with | 0 | 1 | 2 | 3 | 4 | 5 | 6 | 7 | 8 | 9 | 10 | 11 | 12 | 13 | 14 | 15 | 16 | 17 | 18 => rfl | m + 19 => simp), fA, fB, fZ, fT, b1.out⟩
  case round =>
    clear fA fB fZ fT b1
    obtain ⟨k, t, hk, rfl, htl, hta, hv, hz, qA, qB, qZ, qT, qb⟩ := hrel
    have HVV := hid hv
    have HZZ := hid hz
    have QZ := hid qZ
    have QBE := hid qb
    clear hv hz qZ qb
    by_cases hk9 : k < 9
    · have hkd : decide ((k : Int) < 9) = true := decide_eq_true (by omega)
      have ca := ints_cell qA (j := k) (by rw [LA.out]; omega)
      have cb := ints_cell qB (j := k) (by rw [LB.out]; omega)
      have ck := ints_cell qT (j := k) (by omega)
      have hf := free_at qT
      have hi0 : 0 ≤ (k : Int) := by omega
      have hi1 : (k : Int) < 19 := by omega
      have hi2 : (k : Int) < 9 := by omega
      have hx1 : la.getD k 0 < 1073741824 := aa.getD (by rw [LA.out]; omega)
      have hy1 : lb.getD k 0 < 1073741824 := ab.getD (by rw [LB.out]; omega)
      obtain ⟨x, hx⟩ : ∃ x, la.getD k 0 = x := ⟨_, rfl⟩
      obtain ⟨y, hy⟩ : ∃ y, lb.getD k 0 = y := ⟨_, rfl⟩
      rw [hx] at ca hx1
      rw [hy] at cb hy1
      have HX := hid hx
      have HY := hid hy
      have QA := hid qA
      have QB := hid qB
      have QT := hid qT
      clear hx hy qA qB qT
      go_wp2_with fail
      refine still_tail 9 (by kernel_rfl) (by kernel_rfl) ?_
      simp only [List.take_succ_cons, List.take_zero, List.drop_succ_cons, List.drop_zero]
      repeat (first | (refine wpStill_step (fun K hK => ?_); go_simp; refine hK _ ?_; clear hK K; try go_ints))
      refine wpStill_nil ?_
      go_wp2_with fail
      refine ⟨⟨k + 1, t.set k (x + y), by omega, by go_num, by simp [htl], All.set hta _ (by omega), ?_, fun m hm => ?_, at_setCell_other QA.out (by simp; omega) _, at_setCell_other QB.out (by simp) _, at_setCell_other QZ.out (by simp) _, ?_, (QBE.out.setCell (by have := HN.out; simp; omega) _).drew⟩, by simp [intOf]; omega⟩
      · have h1 := val_set (B := B30) (l := t) (j := k) (by omega) (x + y)
        rw [HZZ.out k (Nat.le_refl _), Nat.zero_mul, Nat.add_zero, HVV.out, Nat.add_mul] at h1
        rw [h1, val_take_succ la k (by rw [LA.out]; omega), val_take_succ lb k (by rw [LB.out]; omega), HX.out, HY.out]
        omega
      · have h0 := HZZ.out m (by omega); simp only [List.getD_eq_getElem?_getD] at h0 ⊢; rw [List.getElem?_set_ne (by omega)]; exact h0
      · rw [show ((x : Int) + (y : Int)) = ((x + y : Nat) : Int) by omega]
        exact ints_store QT.out _ _
    · have hkd : decide ((k : Int) < 9) = false := decide_eq_false (by omega)
      have hk10 : k = 9 := by omega
      have hv := HVV.out
      rw [hk10, List.take_of_length_le (by rw [LA.out]; omega), List.take_of_length_le (by rw [LB.out]; omega), VA.out, VB.out] at hv
      have hrr := hid (fun w => ref_reduce t w htl (mW_of hta) (by rw [hv]; exact Nat.lt_trans (show a + b < pP + pP by omega) (by decide)))
      rw [hv] at hrr
      clear qA qB HZZ
      have hst : (ints .u64 t).size = 19 := by rw [ints_size, htl]
      have hot : ones (ints .u64 t) = true := rows_one _ _
      have gT : hget wr (N + 1 + 1 + 1) = some (.cells (ints .u64 t) 57 (0, 0)) := qT
      have gZ : hget wr (N + 1 + 1) = some (.cells (nine 0) 30 (0, 0)) := QZ.out
      obtain ⟨z, hz⟩ : ∃ z, (a + b) % pP = z := ⟨_, rfl⟩
      rw [hz] at hrr
      have HZ := hid hz
      clear qT QZ hv hk10 HVV hz
      go_wp2_with fail
      refine (hrr.out _).mono ?_
      rintro e w4 ⟨rfl, hb4⟩
      have kZ := Kept.on (kept (b := N + 1 + 1) (o := .cells (nine 0) 30 (0, 0)) (by go_simp)) hb4
      have b4 : Hid (Below W.heap.size W w4) := below_to (by repeat (first | exact Below.refl _ _ | exact below_new _ | exact QBE.out | assumption | refine Below.drew ?_ | refine Below.drewN ?_ _ | refine below_alloc ?_ _ | refine below_blk' ?_ (by omega) _)) hb4
      clear hb4
      try clear gZ lZ nZ mZ
      obtain ⟨gZ, lZ, nZ, mZ⟩ := kZ
      clear QBE
      clear gT
      go_wp2_with fail
      refine bodyPost_ret (v := .agg (nine z)) (results_cell_row Try.results23 _ _ (N + 1 + 1) 30 (nine z) (0, 0) _ (by rfl) (by rw [← hget_eq]; go_simp) Try.underlying30 rfl (by rw [info_Num]; go_simp)) rfl ?_
      have hWN := HN.out
      refine ⟨?_, by repeat (first | exact Below.refl _ _ | exact below_new _ | exact b4.out | assumption | refine Below.drew ?_ | refine Below.drewN ?_ _ | refine below_alloc ?_ _ | refine below_blk' ?_ (by omega) _)⟩
      rw [← HZ.out]
      rfl

set_option maxHeartbeats 2000000 in
theorem ref_Mul (a b : Nat) (W : World) (ha : a < pP) (hb : b < pP) : Calls Try.prog 27 #[.agg (nine a), .agg (nine b)] W fun e w' => e = .returned (.agg (nine (a * b % pP))) ∧ Below W.heap.size W w' := by
  obtain ⟨la, hla⟩ : ∃ l, digs B30 a 9 = l := ⟨_, rfl⟩
  obtain ⟨lb, hlb⟩ : ∃ l, digs B30 b 9 = l := ⟨_, rfl⟩
  have va : val B30 la = a := by rw [← hla]; exact val_nine (by unfold pP at *; omega)
  have vb : val B30 lb = b := by rw [← hlb]; exact val_nine (by unfold pP at *; omega)
  have la9 : la.length = 9 := by rw [← hla, digs_length]
  have lb9 : lb.length = 9 := by rw [← hlb, digs_length]
  have aa : All B30 la := by rw [← hla]; exact digs_all (by decide) _ _
  have ab : All B30 lb := by rw [← hlb]; exact digs_all (by decide) _ _
  unfold nine
  rw [hla, hlb]
  have hsa : (ints .u64 la).size = 9 := by rw [ints_size, la9]
  have hsb : (ints .u64 lb).size = 9 := by rw [ints_size, lb9]
  have VA := hid va
  have VB := hid vb
  have LA := hid la9
  have LB := hid lb9
  clear hla hlb va vb la9 lb9
  go_enter Try.func27, Try.ntmps27
  go_upto_region 2 with (fail)
  obtain ⟨N, hN⟩ : ∃ N, W.heap.size = N := ⟨_, rfl⟩
  obtain ⟨w1, hw1⟩ : ∃ w1, (((W.alloc (.cells (ints .u64 la) 30)).alloc (.cells (ints .u64 lb) 30)).alloc (.cells (nine 0) 30)).alloc (.cells (ints .u64 [0, 0, 0, 0, 0, 0, 0, 0, 0, 0, 0, 0, 0, 0, 0, 0, 0, 0, 0]) 57) = w1 := ⟨_, rfl⟩
  have fA : w1.heap[N]? = some (.cells (ints .u64 la) 30 (0, 0)) := by rw [← hw1, ← hN]; exact alloc_old (alloc_old (alloc_old (alloc_at _ _)))
  have fB : w1.heap[N + 1]? = some (.cells (ints .u64 lb) 30 (0, 0)) := by rw [← hw1, ← hN]; exact alloc_old (alloc_old (alloc_at' (by simp) _))
  have fZ : w1.heap[N + 1 + 1]? = some (.cells (nine 0) 30 (0, 0)) := by rw [← hw1, ← hN]; exact alloc_old (alloc_at' (by simp) _)
  have fT : w1.heap[N + 1 + 1 + 1]? = some (.cells (ints .u64 [0, 0, 0, 0, 0, 0, 0, 0, 0, 0, 0, 0, 0, 0, 0, 0, 0, 0, 0]) 57 (0, 0)) := by rw [← hw1, ← hN]; exact alloc_at' (by simp) _
  have b1 : Hid (Below W.heap.size W w1) := by rw [← hw1]; repeat (first | exact Below.refl _ _ | exact below_new _ | assumption | refine Below.drew ?_ | refine Below.drewN ?_ _ | refine below_alloc ?_ _)
  change Code.wp _ _ _ _ ((((W.alloc (.cells (ints .u64 la) 30)).alloc (.cells (ints .u64 lb) 30)).alloc (.cells (nine 0) 30)).alloc (.cells (ints .u64 [0, 0, 0, 0, 0, 0, 0, 0, 0, 0, 0, 0, 0, 0, 0, 0, 0, 0, 0]) 57))
  rw [hw1, hN]
  have HN := hid hN
  clear hw1 hN
  go_wp2_with fail
  go_loopw [6] (fun i wr => ∃ (k : Nat) (t : List Nat), k ≤ 9 ∧ i = .int .i64 (k : Int) ∧ t.length = 19 ∧ (∀ m, t.getD m 0 ≤ 1152921502459363329 * k) ∧ val B30 t = val B30 (la.take k) * b ∧ wr.heap[N]? = some (.cells (ints .u64 la) 30 (0, 0)) ∧ wr.heap[N + 1]? = some (.cells (ints .u64 lb) 30 (0, 0)) ∧ wr.heap[N + 1 + 1]? = some (.cells (nine 0) 30 (0, 0)) ∧ wr.heap[N + 1 + 1 + 1]? = some (.cells (ints .u64 t) 57 (0, 0)) ∧ Below W.heap.size W wr) (fun i _ => (9 - intOf i).toNat)
  case atStart => exact ⟨0, [0, 0, 0, 0, 0, 0, 0, 0, 0, 0, 0, 0, 0, 0, 0, 0, 0, 0, 0], by omega, rfl, rfl, fun m => by (match m with | 0 | 1 | 2 | 3 | 4 | 5 | 6 | 7 | 8 | 9 | 10 | 11 | 12 | 13 | 14 | 15 | 16 | 17 | 18 => exact Nat.le_refl _ | m + 19 => simp), by simp [val], fA, fB, fZ, fT, b1.out⟩
  case round =>
    clear fA fB fZ fT b1
    obtain ⟨k, t, hk, rfl, htl, hta, hv, qA, qB, qZ, qT, qb⟩ := hrel
    have HVV := hid hv
    have HTA := hid hta
    have QZ := hid qZ
    have QBE := hid qb
    clear hv hta qZ qb
    by_cases hk9 : k < 9
    · have hkd : decide ((k : Int) < 9) = true := decide_eq_true (by omega)
      have QA := hid qA
      have QB := hid qB
      have QT := hid qT
      clear qA qB qT
      go_wp2_with fail
      go_loopw [7] (fun i wq => ∃ (j : Nat) (u : List Nat), j ≤ 9 ∧ i = .int .i64 (j : Int) ∧ u.length = 19 ∧ (∀ m, u.getD m 0 ≤ if m < k + j then 1152921502459363329 * (k + 1) else 1152921502459363329 * k) ∧ val B30 u = val B30 (la.take k) * b + la.getD k 0 * val B30 (lb.take j) * B30 ^ k ∧ wq.heap[N]? = some (.cells (ints .u64 la) 30 (0, 0)) ∧ wq.heap[N + 1]? = some (.cells (ints .u64 lb) 30 (0, 0)) ∧ wq.heap[N + 1 + 1]? = some (.cells (nine 0) 30 (0, 0)) ∧ wq.heap[N + 1 + 1 + 1]? = some (.cells (ints .u64 u) 57 (0, 0)) ∧ Below W.heap.size W wq) (fun i _ => (9 - intOf i).toNat)
      case atStart => exact ⟨0, t, by omega, rfl, htl, fun m => by (have := HTA.out m; split <;> omega), by rw [HVV.out]; simp [val], QA.out, QB.out, QZ.out, QT.out, QBE.out⟩
      case round =>
        clear QA QB QZ QT QBE
        obtain ⟨j, u, hj, rfl, hul, hua, hv, qA, qB, qZ, qT, qb⟩ := hrel
        have HU := hid hv
        have HUA := hid hua
        have QZ := hid qZ
        have QBE := hid qb
        clear hv hua qZ qb
        by_cases hj9 : j < 9
        · have hjd : decide ((j : Int) < 9) = true := decide_eq_true (by omega)
          have ca := ints_cell qA (j := k) (by rw [LA.out]; omega)
          have cb := ints_cell qB (j := j) (by rw [LB.out]; omega)
          have ck := ints_cell qT (j := k + j) (by omega)
          have hf := free_at qT
          have hi0 : 0 ≤ (k : Int) := by omega
          have hi1 : (k : Int) < 9 := by omega
          have hi2 : 0 ≤ (j : Int) := by omega
          have hi3 : (j : Int) < 9 := by omega
          have hi4 : 0 ≤ (k : Int) + (j : Int) := by omega
          have hi5 : (k : Int) + (j : Int) < 19 := by omega
          have hi6 : ((k : Int) + (j : Int)).toNat = k + j := by omega
          have hx1 : la.getD k 0 < 1073741824 := aa.getD (by rw [LA.out]; omega)
          have hy1 : lb.getD j 0 < 1073741824 := ab.getD (by rw [LB.out]; omega)
          have hs1 := HUA.out (k + j)
          rw [if_neg (Nat.lt_irrefl _)] at hs1
          obtain ⟨x, hx⟩ : ∃ x, la.getD k 0 = x := ⟨_, rfl⟩
          obtain ⟨y, hy⟩ : ∃ y, lb.getD j 0 = y := ⟨_, rfl⟩
          obtain ⟨z, hz⟩ : ∃ z, u.getD (k + j) 0 = z := ⟨_, rfl⟩
          rw [hx] at ca hx1
          rw [hy] at cb hy1
          rw [hz] at ck hs1
          have hxy : x * y ≤ 1152921502459363329 := Nat.le_trans (Nat.mul_le_mul (show x ≤ 1073741823 by omega) (show y ≤ 1073741823 by omega)) (by decide)
          have hpi : (x : Int) * (y : Int) = ((x * y : Nat) : Int) := (Int.natCast_mul x y).symm
          have hp0 : 0 ≤ (x : Int) * (y : Int) := by rw [hpi]; omega
          have hp1 : (x : Int) * (y : Int) ≤ 1152921502459363329 := by rw [hpi]; omega
          have HX := hid hx
          have HY := hid hy
          have HZ := hid hz
          have HPI := hid hpi
          have QA := hid qA
          have QB := hid qB
          have QT := hid qT
          clear hx hy hz hpi qA qB qT
          go_wp2_with fail
          refine still_tail 17 (by kernel_rfl) (by kernel_rfl) ?_
          simp only [List.take_succ_cons, List.take_zero, List.drop_succ_cons, List.drop_zero]
          repeat (first | (refine wpStill_step (fun K hK => ?_); go_simp; refine hK _ ?_; clear hK K; try go_ints))
          refine wpStill_nil ?_
          go_wp2_with fail
          refine ⟨⟨j + 1, u.set (k + j) (z + x * y), by omega, by go_num, by simp [hul], fun m => ?_, ?_, at_setCell_other QA.out (by simp; omega) _, at_setCell_other QB.out (by simp) _, at_setCell_other QZ.out (by simp) _, ?_, (QBE.out.setCell (by have := HN.out; simp; omega) _).drew⟩, by simp [intOf]; omega⟩
          · have h0 := HUA.out m
            by_cases hm : m = k + j
            · subst hm
              rw [if_pos (by omega)]
              simp [hul, show k + j < 19 by omega]
              omega
            · have e1 : (u.set (k + j) (z + x * y)).getD m 0 = u.getD m 0 := by simp only [List.getD_eq_getElem?_getD]; rw [List.getElem?_set_ne (by omega)]
              rw [e1]
              split at h0 <;> split <;> omega
          · have hst := add_at (B := B30) (l := u) (j := k + j) (x := x * y) (by omega)
            rw [HZ.out] at hst
            rw [hst, HU.out, val_take_succ lb j (by rw [LB.out]; omega), HX.out, HY.out, Nat.pow_add]
            generalize B30 ^ k = K
            generalize B30 ^ j = J
            generalize val B30 (lb.take j) = V
            rw [Nat.mul_add, Nat.add_mul, show x * y * (K * J) = x * (y * J) * K by rw [Nat.mul_assoc x, Nat.mul_assoc x, Nat.mul_assoc y, Nat.mul_comm J K]]
            omega
          · rw [show ((z : Int) + (x : Int) * (y : Int)) = ((z + x * y : Nat) : Int) by rw [HPI.out]; omega]
            exact ints_store QT.out _ _
        · have hjd : decide ((j : Int) < 9) = false := decide_eq_false (by omega)
          have hj10 : j = 9 := by omega
          have hv := HU.out
          rw [hj10, List.take_of_length_le (l := lb) (by rw [LB.out]; omega), VB.out] at hv
          have hv2 : val B30 u = val B30 (la.take (k + 1)) * b := by rw [hv, val_take_succ la k (by rw [LA.out]; omega), Nat.add_mul, Nat.mul_right_comm]
          have HV2 := hid hv2
          have QA := hid qA
          have QB := hid qB
          have QT := hid qT
          clear hv hv2 hj10 HU qA qB qT
          go_wp2_with fail
          exact ⟨⟨k + 1, u, by omega, by go_num, hul, fun m => by (have := HUA.out m; split at this <;> omega), HV2.out, QA.out, QB.out, QZ.out, QT.out, QBE.out⟩, by simp [intOf]; omega⟩
    · have hkd : decide ((k : Int) < 9) = false := decide_eq_false (by omega)
      have hk10 : k = 9 := by omega
      have hv := HVV.out
      rw [hk10, List.take_of_length_le (by rw [LA.out]; omega), VA.out] at hv
      have hta' : All mW t := fun x hx => by
        obtain ⟨m, hm, rfl⟩ := List.getElem_of_mem hx
        have h1 := HTA.out m
        rw [getD_at hm] at h1
        unfold mW
        omega
      have hrr := hid (fun w => ref_reduce t w htl hta' (by rw [hv]; exact Nat.lt_trans (Nat.mul_lt_mul'' ha hb) (by decide)))
      rw [hv] at hrr
      clear qA qB HTA hta'
      have hst : (ints .u64 t).size = 19 := by rw [ints_size, htl]
      have hot : ones (ints .u64 t) = true := rows_one _ _
      have gT : hget wr (N + 1 + 1 + 1) = some (.cells (ints .u64 t) 57 (0, 0)) := qT
      have gZ : hget wr (N + 1 + 1) = some (.cells (nine 0) 30 (0, 0)) := QZ.out
      obtain ⟨z, hz⟩ : ∃ z, (a * b) % pP = z := ⟨_, rfl⟩
      rw [hz] at hrr
      have HZ := hid hz
      clear qT QZ hv hk10 HVV hz
      go_wp2_with fail
      refine (hrr.out _).mono ?_
      rintro e w4 ⟨rfl, hb4⟩
      have kZ := Kept.on (kept (b := N + 1 + 1) (o := .cells (nine 0) 30 (0, 0)) (by go_simp)) hb4
      have b4 : Hid (Below W.heap.size W w4) := below_to (by repeat (first | exact Below.refl _ _ | exact below_new _ | exact QBE.out | assumption | refine Below.drew ?_ | refine Below.drewN ?_ _ | refine below_alloc ?_ _ | refine below_blk' ?_ (by omega) _)) hb4
      clear hb4
      try clear gZ lZ nZ mZ
      obtain ⟨gZ, lZ, nZ, mZ⟩ := kZ
      clear QBE
      clear gT
      go_wp2_with fail
      refine bodyPost_ret (v := .agg (nine z)) (results_cell_row Try.results27 _ _ (N + 1 + 1) 30 (nine z) (0, 0) _ (by rfl) (by rw [← hget_eq]; go_simp) Try.underlying30 rfl (by rw [info_Num]; go_simp)) rfl ?_
      have hWN := HN.out
      refine ⟨?_, by repeat (first | exact Below.refl _ _ | exact below_new _ | exact b4.out | assumption | refine Below.drew ?_ | refine Below.drewN ?_ _ | refine below_alloc ?_ _ | refine below_blk' ?_ (by omega) _)⟩
      rw [← HZ.out]
      rfl

set_option maxHeartbeats 1000000 in
theorem ref_Sub (a b : Nat) (W : World) (ha : a < pP) (hb : b ≤ pP) : Calls Try.prog 25 #[.agg (nine a), .agg (nine b)] W fun e w' => e = .returned (.agg (nine ((a + (pP - b)) % pP))) ∧ Below W.heap.size W w' := by
  have hpr := hid (fun w => ref_Prime w)
  have hmi := hid (fun w => minus_nine pP b w (by decide) hb)
  have had := hid (fun w => ref_Add a (pP - b) w ha (by omega))
  obtain ⟨z, hz⟩ : ∃ z, (a + (pP - b)) % pP = z := ⟨_, rfl⟩
  rw [hz] at had ⊢
  clear hz
  generalize pP - b = y at *
  go_enter Try.func25, Try.ntmps25
  go_wp2_with fail
  obtain ⟨w1, hw1⟩ : ∃ w1, ((W.alloc (.cells (nine a) 30)).alloc (.cells (nine b) 30)).alloc (.cells (nine 0) 30) = w1 := ⟨_, rfl⟩
  have kA := kept (show hget w1 (W.heap.size) = some (.cells (nine a) 30 (0, 0)) by rw [← hw1]; clear hw1; go_simp)
  have kB := kept (show hget w1 (W.heap.size + 1) = some (.cells (nine b) 30 (0, 0)) by rw [← hw1]; clear hw1; go_simp)
  have kR := kept (show hget w1 (W.heap.size + 1 + 1) = some (.cells (nine 0) 30 (0, 0)) by rw [← hw1]; clear hw1; go_simp)
  have b1 : Hid (Below W.heap.size W w1) := by rw [← hw1]; repeat (first | exact Below.refl _ _ | exact below_new _ | assumption | refine Below.drew ?_ | refine Below.drewN ?_ _ | refine below_alloc ?_ _ | refine below_blk' ?_ (by omega) _)
  rw [hw1]
  clear hw1
  try clear gA lA nA mA
  try clear jA
  have jA := kA.later
  obtain ⟨gA, lA, nA, mA⟩ := kA
  try clear gB lB nB mB
  try clear jB
  have jB := kB.later
  obtain ⟨gB, lB, nB, mB⟩ := kB
  try clear gR lR nR mR
  try clear jR
  have jR := kR.later
  obtain ⟨gR, lR, nR, mR⟩ := kR
  refine wp_region_later_tail 5 (by kernel_rfl) (by kernel_rfl) ?_
  simp only [List.take_succ_cons, List.take_zero, List.drop_succ_cons, List.drop_zero]
  repeat ((go_big_quiet_step ((first | (go_at_call 38; with_reducible exact calls_later (hpr.out _)) | (go_at_call 42; with_reducible exact calls_later (hmi.out _)) | (go_at_call 23; with_reducible exact calls_later (had.out _))))))
  refine wpQuiet_nil ?_
  intro wL hwL
  obtain ⟨⟨w8, hL⟩, e8⟩ := hwL
  change wL = w8 at e8
  subst e8
  have kR : Kept wL _ _ := kept (jR ⟨_, hL⟩)
  have b2 := hid (below_to b1.out hL)
  clear jA jB jR hL gA gB gR lA lB lR nA nB nR mA mB mR b1
  obtain ⟨gR, lR, nR, mR⟩ := kR
  go_wp2_with fail
  refine bodyPost_ret (v := .agg (nine z)) (results_cell_row Try.results25 _ _ (W.heap.size + 1 + 1) 30 (nine z) (0, 0) _ (by rfl) (by rw [← hget_eq]; go_simp) Try.underlying30 rfl (by rw [info_Num]; go_simp)) rfl ?_
  exact ⟨rfl, by repeat (first | exact Below.refl _ _ | exact below_new _ | exact b2.out | assumption | refine Below.drew ?_ | refine Below.drewN ?_ _ | refine below_alloc ?_ _ | refine below_blk' ?_ (by omega) _)⟩

end Go.Proofs.Ytoaihbmicdbaiaa
