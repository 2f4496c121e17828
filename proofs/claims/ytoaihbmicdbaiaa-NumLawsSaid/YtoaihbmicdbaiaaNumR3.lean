/- The walk of the document's reduce. -/
import Derived.Test.YtoaihbmicdbaiaaNumR2
import Derived.Test.YtoaihbmicdbaiaaLQT
import Derived.Deep.LoopGhost
namespace Go.Proofs.Ytoaihbmicdbaiaa
open Go.RowKit DG
theorem info_A19 : (Try.prog.info? 57).map (·.size) = some 19 := by kernel_rfl
                 theorem exl_A19 {r : Operand → Value} {dst : Option Nat} {x : Operand} {t : TypeId} {pos : String} {af : Array Edge} {g : Option (Nat × Bool)} : execOp r ⟨dst, .load 57 x, t, pos, af, g⟩ = (do let v ← loadRow 57 (r x); pure (Next.value v)) := rfl
                 theorem exs_A19 {r : Operand → Value} {dst : Option Nat} {x y : Operand} {t : TypeId} {pos : String} {af : Array Edge} {g : Option (Nat × Bool)} : execOp r ⟨dst, .store 57 x y, t, pos, af, g⟩ = (do storeRow 57 (r x) (r y); pure Next.skip) := rfl
                 theorem ldr_A19 (b : Nat) (w : World) : (loadRow 57 (.pointer (some ⟨b, 0, none⟩))).run Try.prog w = match hget w b with | some (.cells c _ _) => if c.size = 19 then .ok (.agg c) w else stuckL Try.prog 57 b w | _ => stuckL Try.prog 57 b w := loadRow_run Try.underlying57 rfl info_A19 b w
                 theorem str_A19 (b : Nat) (c' : Array Value) (w : World) : (storeRow 57 (.pointer (some ⟨b, 0, none⟩)) (.agg c')).run Try.prog w = match hget w b with | some (.cells c T (0, 0)) => if c.size = 19 then (if c'.size = 19 then (if ones c' = true then .ok () (blk w b (.cells c' T (0, 0))) else stuckS Try.prog 57 b (.agg c') w) else stuckS Try.prog 57 b (.agg c') w) else stuckS Try.prog 57 b (.agg c') w | _ => stuckS Try.prog 57 b (.agg c') w := storeRow_run info_A19 b c' w
attribute [local go_sem ↓] exl_Num exs_Num exl_A19 exs_A19
                                                                                                                                                                                                                                                                                                                                                                                                                                                                                                                   attribute [local go_sem] ldr_Num str_Num ldr_A19 str_A19
attribute [local go_sem] to_nine0

theorem val_nine {v : Nat} (h : v < 1897137590064188545819787018382342682267975428761855001222473056385648716020711424) : val B30 (digs B30 v 9) = v := by
  rw [val_digs, B30_9, Nat.mod_eq_of_lt h]
theorem less_nine (a b : Nat) (W : World) (ha : a < 57896044618658097711785492504343953926634992332820282019728792003956564819968) (hb : b < 57896044618658097711785492504343953926634992332820282019728792003956564819968) :
    Calls Try.prog 37 #[.agg (nine a), .agg (nine b)] W fun e w' => e = .returned (.bool (decide (a < b))) ∧ Below W.heap.size W w' := by
  have h := ref_less (digs B30 a 9) (digs B30 b 9) W (digs_all (by decide) _ _) (digs_all (by decide) _ _) (digs_length _ _) (digs_length _ _)
  rw [val_nine (by omega), val_nine (by omega)] at h
  exact h
theorem minus_nine (a b : Nat) (W : World) (ha : a < 57896044618658097711785492504343953926634992332820282019728792003956564819968) (hb : b ≤ a) :
    Calls Try.prog 42 #[.agg (nine a), .agg (nine b)] W fun e w' => e = .returned (.agg (nine (a - b))) ∧ Below W.heap.size W w' := by
  have h := ref_minus (digs B30 a 9) (digs B30 b 9) W (digs_all (by decide) _ _) (digs_all (by decide) _ _) (digs_length _ _) (digs_length _ _) (by rw [val_nine (by omega), val_nine (by omega)]; exact hb)
  rw [val_nine (by omega), val_nine (by omega)] at h
  exact h

set_option maxHeartbeats 1000000 in
theorem ref_reduce (l : List Nat) (W : World) (hl : l.length = 19) (hM : All mW l) (hv : val B30 l < B30 ^ 19) :
    Calls Try.prog 32 #[.agg (ints .u64 l)] W fun e w' => e = .returned (.agg (nine (val B30 l % pP))) ∧ Below W.heap.size W w' := by
  have hsl : (ints .u64 l).size = 19 := by rw [ints_size, hl]
  have HS := hid (itR_spec l hl hM hv)
  have HT := hid (itT_spec (itR l 3) (itR_spec l hl hM hv 3).1 (itR_spec l hl hM hv 3).2.1)
  obtain ⟨u, hu1, hu2, hu3⟩ := redList_spec l hl hv
  rw [redList_it] at hu1
  have HU := hid (And.intro hu1 hu3)
  clear hu1 hu3 hv hM
  go_enter Try.func32, Try.ntmps32
  go_wp2_with fail
  obtain ⟨N, hN⟩ : ∃ N, N = W.heap.size := ⟨_, rfl⟩
  rw [← hN]
  have HN := hid hN
  go_loopw [3] (fun i wr => ∃ k : Nat, k ≤ 3 ∧ i = .int .i64 (k : Int) ∧ wr.heap[N]? = some (.cells (ints .u64 (itR l k)) 57 (0, 0)) ∧ wr.heap[N + 1]? = some (.cells (nine 0) 30 (0, 0)) ∧ Below W.heap.size W wr) (fun i _ => (3 - intOf i).toNat)
  case atStart => exact ⟨0, by omega, rfl, alloc_old (alloc_at' hN _), alloc_at' (by simp [hN]) _, below_alloc (below_new _) _⟩
  case round =>
    clear hN
    obtain ⟨k, hk, rfl, rA, rZ, rb⟩ := hrel
    have RZ := hid rZ
    have RBE := hid rb
    clear rZ rb
    by_cases hk3 : k < 3
    · have hkd : decide ((k : Int) < 3) = true := decide_eq_true (by omega)
      obtain ⟨hL1, hL2, hL3⟩ := HS.out k
      obtain ⟨L, hL⟩ : ∃ L, itR l k = L := ⟨_, rfl⟩
      have hst : itR l (k + 1) = fld (carr B30 (itR l k) 19).1 10 := rfl
      rw [hL] at hL1 hL2 hL3 rA hst
      have HST := hid hst
      have RA := hid rA
      clear hL hst rA
      go_wp2_with fail
      go_loopw [5, 4] (fun i cy wq => ∃ j : Nat, j ≤ 19 ∧ i = .int .i64 (j : Int) ∧ cy = .int .u64 (((carr B30 L j).2 : Nat) : Int) ∧ wq.heap[N]? = some (.cells (ints .u64 (carr B30 L j).1) 57 (0, 0)) ∧ wq.heap[N + 1]? = some (.cells (nine 0) 30 (0, 0)) ∧ Below W.heap.size W wq) (fun i _ _ => (19 - intOf i).toNat)
      case atStart => exact ⟨0, by omega, rfl, rfl, RA.out, RZ.out, RBE.out⟩
      case round =>
        clear RA RZ RBE
        obtain ⟨j, hj, rfl, rfl, qA, qZ, qb⟩ := hrel
        have QZ := hid qZ
        have QBE := hid qb
        clear qZ qb
        have hcl := carr_len (B := B30) L j
        by_cases hj19 : j < 19
        · have hjd : decide ((j : Int) < 19) = true := decide_eq_true (by omega)
          have hb := carr_bound L hL2 j (by omega)
          have hx : (carr B30 L j).1.getD j 0 < 18446741874686296064 := by rw [carr_getD (by decide) L j (by omega)]; exact hL2.getD (by omega)
          have hst : carr B30 L (j + 1) = ((carr B30 L j).1.set j (((carr B30 L j).1.getD j 0 + (carr B30 L j).2) % B30), ((carr B30 L j).1.getD j 0 + (carr B30 L j).2) / B30) := rfl
          have cj := ints_cell qA (j := j) (by omega)
          have hf := free_at qA
          have hi0 : 0 ≤ (j : Int) := by omega
          have hi1 : (j : Int) < 19 := by omega
          obtain ⟨c, hc⟩ : ∃ c, (carr B30 L j).1 = c := ⟨_, rfl⟩
          obtain ⟨cr, hcr⟩ : ∃ cr, (carr B30 L j).2 = cr := ⟨_, rfl⟩
          obtain ⟨x, hxx⟩ : ∃ x, c.getD j 0 = x := ⟨_, rfl⟩
          rw [hc] at hx hst cj qA
          rw [hcr] at hb hst ⊢
          rw [hxx] at hx hst cj
          have h30 := and30 (x + cr) (by omega)
          have HQ := hid qA
          have HST2 := hid hst
          clear hc hcr hxx hst qA hcl
          have hxi : ((x : Int) + (cr : Int)) = ((x + cr : Nat) : Int) := by omega
          have HXI := hid hxi
          clear hxi
          go_wp2_with fail
          rw [HXI.out, h30]
          refine ⟨⟨j + 1, by omega, by go_num, ?_, ?_, at_setCell_other QZ.out (by simp) _, QBE.out.setCell (by have := HN.out; simp; omega) _⟩, by simp [intOf]; omega⟩
          · rw [HST2.out]; rfl
          · rw [HST2.out]; exact ints_store HQ.out _ _
        · have hjd : decide ((j : Int) < 19) = false := decide_eq_false (by omega)
          have hj9 : j = 19 := by omega
          rw [hj9] at qA hcl
          obtain ⟨_, hall, _⟩ := carr_spec (B := B30) (by decide) L 19 (by omega)
          rw [List.take_of_length_le (by omega)] at hall
          have hcl19 : (carr B30 L 19).1.length = 19 := by omega
          obtain ⟨C, hC⟩ : ∃ C, (carr B30 L 19).1 = C := ⟨_, rfl⟩
          have hst := HST.out
          rw [hC] at qA hall hcl19 hst
          have HST3 := hid hst
          have QA := hid qA
          clear hst HST hC qA hj9 hcl
          go_wp2_with fail
          go_loopw [7] (fun i wq => ∃ j : Nat, j ≤ 10 ∧ i = .int .i64 (j : Int) ∧ wq.heap[N]? = some (.cells (ints .u64 (fld C j)) 57 (0, 0)) ∧ wq.heap[N + 1]? = some (.cells (nine 0) 30 (0, 0)) ∧ Below W.heap.size W wq) (fun i _ => (10 - intOf i).toNat)
          case atStart => exact ⟨0, by omega, rfl, QA.out, QZ.out, QBE.out⟩
          case round =>
            clear QA QZ QBE
            obtain ⟨j, hj, rfl, qA, qZ, qb⟩ := hrel
            have QZ := hid qZ
            have QBE := hid qb
            clear qZ qb
            by_cases hj10 : j < 10
            · have hjd : decide ((j : Int) < 10) = true := decide_eq_true (by omega)
              obtain ⟨hx, hy⟩ := fld_facts C hcl19 hall j hj10
              have hfl := fld_len C j
              have hst : fld C (j + 1) = ((fld C j).set j ((fld C j).getD j 0 + (fld C j).getD (9 + j) 0 * 622592)).set (9 + j) 0 := rfl
              have cj := ints_cell qA (j := j) (by omega)
              have ck := ints_cell qA (j := 9 + j) (by omega)
              have hf := free_at qA
              have hi0 : 0 ≤ (j : Int) := by omega
              have hi1 : (j : Int) < 19 := by omega
              have hi2 : 0 ≤ 9 + (j : Int) := by omega
              have hi3 : 9 + (j : Int) < 19 := by omega
              have hi4 : (9 + (j : Int)).toNat = 9 + j := by omega
              obtain ⟨c, hc⟩ : ∃ c, fld C j = c := ⟨_, rfl⟩
              obtain ⟨x, hxx⟩ : ∃ x, c.getD j 0 = x := ⟨_, rfl⟩
              obtain ⟨y, hyy⟩ : ∃ y, c.getD (9 + j) 0 = y := ⟨_, rfl⟩
              rw [hc] at hx hy hst cj ck qA
              rw [hxx] at hx hst cj
              rw [hyy] at hy hst ck
              have HST4 := hid hst
              have hq1 := hid (ints_store qA j (x + y * 622592))
              clear hc hxx hyy hst hfl
              go_wp2_with fail
              refine still_tail 11 (by kernel_rfl) (by kernel_rfl) ?_
              simp only [List.take_succ_cons, List.take_zero, List.drop_succ_cons, List.drop_zero]
              repeat (first | (refine wpStill_step (fun K hK => ?_); go_simp; refine hK _ ?_; clear hK K; try go_ints))
              refine wpStill_nil ?_
              have hxi : ((x : Int) + (y : Int) * 622592) = ((x + y * 622592 : Nat) : Int) := by omega
              have HXI := hid hxi
              clear hxi
              go_wp2_with fail
              refine ⟨⟨j + 1, by omega, by go_num, ?_, at_setCell_other (at_setCell_other QZ.out (by simp) _) (by simp) _, ((QBE.out.setCell (by have := HN.out; simp; omega) _).setCell (by have := HN.out; simp; omega) _).drew⟩, by simp [intOf]; omega⟩
              rw [HXI.out, HST4.out]
              exact ints_store hq1.out _ 0
            · have hjd : decide ((j : Int) < 10) = false := decide_eq_false (by omega)
              have hj9 : j = 10 := by omega
              rw [hj9, ← HST3.out] at qA
              have QA := hid qA
              clear qA hj9 HST3
              go_wp2_with fail
              exact ⟨⟨k + 1, by omega, by go_num, QA.out, QZ.out, QBE.out⟩, by simp [intOf]; omega⟩
    · have hkd : decide ((k : Int) < 3) = false := decide_eq_false (by omega)
      have hk9 : k = 3 := by omega
      rw [hk9] at rA
      obtain ⟨T, hT⟩ : ∃ T, itR l 3 = T := ⟨_, rfl⟩
      have ht := HT.out
      have hu := HU.out
      rw [hT] at rA ht hu
      have HT2 := hid ht
      have HU2 := hid hu
      have RA := hid rA
      clear hT ht hu rA HT HU HS hk9
      go_wp2_with fail
      obtain ⟨X, hX⟩ : ∃ X, wr.heap.size = X := ⟨_, rfl⟩
      rw [hX]
      have hNX : N + 1 < X := by rw [← hX]; exact lt_blk RZ.out
      have hWX : W.heap.size ≤ X := by have := HN.out; omega
      go_loopw [9] (fun i wq => ∃ k : Nat, k ≤ 3 ∧ i = .int .i64 (k : Int) ∧ wq.heap[N]? = some (.cells (ints .u64 (itT T k)) 57 (0, 0)) ∧ wq.heap[N + 1]? = some (.cells (nine 0) 30 (0, 0)) ∧ wq.heap[X]? = some (.cells (nine 0) 30 (0, 0)) ∧ Below W.heap.size W wq) (fun i _ => (3 - intOf i).toNat)
      case atStart => exact ⟨0, by omega, rfl, alloc_old RA.out, alloc_old RZ.out, alloc_at' hX.symm _, below_alloc RBE.out _⟩
      case round =>
        clear RA RZ RBE hX
        obtain ⟨k, hk, rfl, rA, rZ, rX, rb⟩ := hrel
        have RZ := hid rZ
        have RX := hid rX
        have RBE := hid rb
        clear rZ rX rb
        by_cases hk3 : k < 3
        · have hkd : decide ((k : Int) < 3) = true := decide_eq_true (by omega)
          obtain ⟨hL1, hL2⟩ := HT2.out k
          obtain ⟨L, hL⟩ : ∃ L, itT T k = L := ⟨_, rfl⟩
          have hst : itT T (k + 1) = passT (itT T k) := rfl
          rw [hL] at hL1 hL2 rA hst
          have HST := hid hst
          have RA := hid rA
          clear hL hst rA
          go_wp2_with fail
          go_loopw [11, 10] (fun i cy wq => ∃ j : Nat, j ≤ 9 ∧ i = .int .i64 (j : Int) ∧ cy = .int .u64 (((carr B30 L j).2 : Nat) : Int) ∧ wq.heap[N]? = some (.cells (ints .u64 (carr B30 L j).1) 57 (0, 0)) ∧ wq.heap[N + 1]? = some (.cells (nine 0) 30 (0, 0)) ∧ wq.heap[X]? = some (.cells (nine 0) 30 (0, 0)) ∧ Below W.heap.size W wq) (fun i _ _ => (9 - intOf i).toNat)
          case atStart => exact ⟨0, by omega, rfl, rfl, RA.out, RZ.out, RX.out, RBE.out⟩
          case round =>
            clear RA RZ RBE RX
            obtain ⟨j, hj, rfl, rfl, qA, qZ, qX, qb⟩ := hrel
            have QZ := hid qZ
            have QX := hid qX
            have QBE := hid qb
            clear qZ qb qX
            have hcl := carr_len (B := B30) L j
            have hb := carr_bound L hL2 j (by omega)
            by_cases hj9 : j < 9
            · have hjd : decide ((j : Int) < 9) = true := decide_eq_true (by omega)
              have hx : (carr B30 L j).1.getD j 0 < 18446741874686296064 := by rw [carr_getD (by decide) L j (by omega)]; exact hL2.getD (by omega)
              have hst : carr B30 L (j + 1) = ((carr B30 L j).1.set j (((carr B30 L j).1.getD j 0 + (carr B30 L j).2) % B30), ((carr B30 L j).1.getD j 0 + (carr B30 L j).2) / B30) := rfl
              have cj := ints_cell qA (j := j) (by omega)
              have hf := free_at qA
              have hi0 : 0 ≤ (j : Int) := by omega
              have hi1 : (j : Int) < 19 := by omega
              obtain ⟨c, hc⟩ : ∃ c, (carr B30 L j).1 = c := ⟨_, rfl⟩
              obtain ⟨cr, hcr⟩ : ∃ cr, (carr B30 L j).2 = cr := ⟨_, rfl⟩
              obtain ⟨x, hxx⟩ : ∃ x, c.getD j 0 = x := ⟨_, rfl⟩
              rw [hc] at hx hst cj qA
              rw [hcr] at hb hst ⊢
              rw [hxx] at hx hst cj
              have h30 := and30 (x + cr) (by omega)
              have HQ := hid qA
              have HST2 := hid hst
              clear hc hcr hxx hst qA hcl
              have hxi : ((x : Int) + (cr : Int)) = ((x + cr : Nat) : Int) := by omega
              have HXI := hid hxi
              clear hxi
              go_wp2_with fail
              rw [HXI.out, h30]
              refine ⟨⟨j + 1, by omega, by go_num, ?_, ?_, at_setCell_other QZ.out (by simp) _, at_setCell_other QX.out (by simp; omega) _, QBE.out.setCell (by have := HN.out; simp; omega) _⟩, by simp [intOf]; omega⟩
              · rw [HST2.out]; rfl
              · rw [HST2.out]; exact ints_store HQ.out _ _
            · have hjd : decide ((j : Int) < 9) = false := decide_eq_false (by omega)
              have hj10 : j = 9 := by omega
              subst hj10
              obtain ⟨f8, f0⟩ := passT_facts L hL1 hL2
              have hst := HST.out
              unfold passT at hst
              simp only [] at hst
              obtain ⟨c, hc⟩ : ∃ c, (carr B30 L 9).1 = c := ⟨_, rfl⟩
              obtain ⟨cr, hcr⟩ : ∃ cr, (carr B30 L 9).2 = cr := ⟨_, rfl⟩
              rw [hc] at f8 f0 qA hst hcl
              rw [hcr] at hb hst ⊢
              have h00 : (c.set 8 (c.getD 8 0 % 32768)).getD 0 0 = c.getD 0 0 := by simp only [List.getD_eq_getElem?_getD]; rw [List.getElem?_set_ne (by omega)]
              rw [h00] at hst
              have c8 := ints_cell qA (j := 8) (by omega)
              have c0 := ints_cell qA (j := 0) (by omega)
              have hf := free_at qA
              obtain ⟨x, hxx⟩ : ∃ x, c.getD 8 0 = x := ⟨_, rfl⟩
              obtain ⟨y, hyy⟩ : ∃ y, c.getD 0 0 = y := ⟨_, rfl⟩
              rw [hxx] at f8 hst c8
              rw [hyy] at f0 hst c0
              have ho := or15 cr x hb f8
              have ha := and15 x (by omega)
              have HQ := hid qA
              have HST5 := hid hst
              have hq1 := hid (ints_store qA 8 (x % 32768))
              have hxi : ((y : Int) + 19 * ((cr * 32768 + x / 32768 : Nat) : Int)) = ((y + 19 * (cr * 32768 + x / 32768) : Nat) : Int) := by omega
              have HXI := hid hxi
              have hq : cr * 32768 + x / 32768 < 1200000000000000 := by omega
              clear hst hc hcr hxx hyy qA hcl h00 hxi HST
              go_wp2_with fail
              refine ⟨⟨k + 1, by omega, by go_num, ?_, at_setCell_other (at_setCell_other QZ.out (by simp) _) (by simp) _, at_setCell_other (at_setCell_other QX.out (by simp; omega) _) (by simp; omega) _, (QBE.out.setCell (by have := HN.out; simp; omega) _).setCell (by have := HN.out; simp; omega) _⟩, by simp [intOf]; omega⟩
              have e1 : ((x : Int) % 32768) = ((x % 32768 : Nat) : Int) := by omega
              have e2 : ((y : Int) + 19 * ((cr : Int) * 32768 + (x : Int) / 32768)) = ((y + 19 * (cr * 32768 + x / 32768) : Nat) : Int) := by omega
              rw [HST5.out, e1, e2]
              exact ints_store hq1.out _ _
        · have hkd : decide ((k : Int) < 3) = false := decide_eq_false (by omega)
          have hk9 : k = 3 := by omega
          subst hk9
          obtain ⟨hT1, _⟩ := HT2.out 3
          obtain ⟨hu1, hu3⟩ := HU2.out
          obtain ⟨R, hR⟩ : ∃ R, itT T 3 = R := ⟨_, rfl⟩
          rw [hR] at hT1 hu1 rA
          have HU3 := hid hu1
          have HU4 := hid hu3
          have RA := hid rA
          clear hu1 hu3 hR rA HT2 HU2
          go_wp2_with fail
          go_loopw [13] (fun i wq => ∃ (j : Nat) (o : List Nat), j ≤ 9 ∧ i = .int .i64 (j : Int) ∧ o.length = 9 ∧ o.take j = R.take j ∧ wq.heap[N]? = some (.cells (ints .u64 R) 57 (0, 0)) ∧ wq.heap[N + 1]? = some (.cells (nine 0) 30 (0, 0)) ∧ wq.heap[X]? = some (.cells (ints .u64 o) 30 (0, 0)) ∧ Below W.heap.size W wq) (fun i _ => (9 - intOf i).toNat)
          case atStart => exact ⟨0, digs B30 0 9, by omega, rfl, digs_length _ _, rfl, RA.out, RZ.out, RX.out, RBE.out⟩
          case round =>
            clear RA RZ RBE RX
            obtain ⟨j, o, hj, rfl, hol, hot, qA, qZ, qX, qb⟩ := hrel
            have QZ := hid qZ
            have QBE := hid qb
            have HOT := hid hot
            clear qZ qb hot
            by_cases hj9 : j < 9
            · have hjd : decide ((j : Int) < 9) = true := decide_eq_true (by omega)
              have cj := ints_cell qA (j := j) (by omega)
              have ck := ints_cell qX (j := j) (by omega)
              have hf := free_at qX
              have hi0 : 0 ≤ (j : Int) := by omega
              have hi1 : (j : Int) < 19 := by omega
              have hi3 : (j : Int) < 9 := by omega
              obtain ⟨x, hxx⟩ : ∃ x, R.getD j 0 = x := ⟨_, rfl⟩
              rw [hxx] at cj
              have HX := hid hxx
              have QA := hid qA
              have QX := hid qX
              clear hxx qA qX
              go_wp2_with fail
              refine ⟨⟨j + 1, o.set j x, by omega, by go_num, by simp [hol], ?_, at_setCell_other QA.out (by simp; omega) _, at_setCell_other QZ.out (by simp; omega) _, ints_store QX.out _ _, QBE.out.setCell (by simp; omega) _⟩, by simp [intOf]; omega⟩
              rw [List.take_succ_eq_append_getElem (by rw [List.length_set]; omega), List.take_succ_eq_append_getElem (l := R) (by omega), List.take_set_of_le (Nat.le_refl _), HOT.out, ← HX.out, getD_at (by omega)]
              simp
            · have hjd : decide ((j : Int) < 9) = false := decide_eq_false (by omega)
              have hj10 : j = 9 := by omega
              have ho := HOT.out
              rw [hj10, List.take_of_length_le (l := o) (by omega), HU3.out] at ho
              have gX : hget wr X = some (.cells (nine u) 30 (0, 0)) := by rw [ho] at qX; exact qX
              have gR : hget wr (N + 1) = some (.cells (nine 0) 30 (0, 0)) := QZ.out
              have qb' := QBE.out
              clear ho hj10 qA qX QZ HOT HU3 QBE
              go_wp2_with fail
              go_loopg [] u (fun g wr => ∃ v : Nat, g = v ∧ v < 57896044618658097711785492504343953926634992332820282019728792003956564819968 ∧ v % pP = val B30 l % pP ∧ hget wr X = some (.cells (nine v) 30 (0, 0)) ∧ hget wr (N + 1) = some (.cells (nine 0) 30 (0, 0)) ∧ Below W.heap.size W wr)
              case atStart => exact ⟨u, rfl, hu2, HU4.out, gX, gR, qb'⟩
              case round =>
                clear gX gR qb' HU4
                obtain ⟨v, rfl, hv1, hv2, qX, qR, qb⟩ := hrel
                have HPR := hid (fun w => ref_Prime w)
                have HLE := hid (fun w => less_nine gk pP w hv1 (by decide))
                have jX := (kept qX).later
                have jR := (kept qR).later
                have qb2 := hid qb
                clear qb
                by_cases hlt : gk < pP
                · rw [decide_eq_true hlt] at HLE
                  go_upto_region 34 with (fail)
                  refine wp_region_later (by kernel_rfl) (by kernel_rfl) ?_
                  repeat ((go_big_quiet_step ((first | (go_at_call 38; with_reducible exact calls_later (HPR.out _)) | (go_at_call 37; with_reducible exact calls_later (HLE.out _))))))
                  refine wpQuiet_nil ?_
                  intro wL hwL
                  obtain ⟨⟨w8, hL⟩, e8⟩ := hwL
                  change wL = w8 at e8
                  subst e8
                  have kX : Kept wL _ _ := kept (jX ⟨_, hL⟩)
                  have kR : Kept wL _ _ := kept (jR ⟨_, hL⟩)
                  have b8 := hid (below_to qb2.out hL)
                  clear jX jR hL qX qR qb2
                  obtain ⟨gR, lR, nR, mR⟩ := kR
                  obtain ⟨gX, lX, nX, mX⟩ := kX
                  go_wp2_with fail
                  refine bodyPost_ret (v := .agg (nine gk)) (results_cell_row Try.results32 _ _ (N + 1) 30 (nine gk) (0, 0) _ (by rfl) (by rw [← hget_eq]; go_simp) Try.underlying30 rfl (by rw [info_Num]; go_simp)) rfl ?_
                  have hWN := HN.out
                  exact ⟨by rw [← hv2, Nat.mod_eq_of_lt hlt], by repeat (first | exact Below.refl _ _ | exact below_new _ | exact b8.out | assumption | refine Below.drew ?_ | refine Below.drewN ?_ _ | refine below_alloc ?_ _ | refine below_blk' ?_ (by omega) _)⟩
                · rw [decide_eq_false hlt] at HLE
                  have HMI := hid (fun w => minus_nine gk pP w hv1 (by omega))
                  go_upto_region 34 with (fail)
                  refine wp_region_later (by kernel_rfl) (by kernel_rfl) ?_
                  repeat ((go_big_quiet_step ((first | (go_at_call 38; with_reducible exact calls_later (HPR.out _)) | (go_at_call 37; with_reducible exact calls_later (HLE.out _))))))
                  refine wpQuiet_nil ?_
                  intro wL hwL
                  obtain ⟨⟨w8, hL⟩, e8⟩ := hwL
                  change wL = w8 at e8
                  subst e8
                  have kX : Kept wL _ _ := kept (jX ⟨_, hL⟩)
                  have kR : Kept wL _ _ := kept (jR ⟨_, hL⟩)
                  have b8 := hid (below_to qb2.out hL)
                  clear jX jR hL qX qR qb2
                  have jX := kX.get
                  have jX := (kept kX.get).later
                  have jR := (kept kR.get).later
                  go_wp2_with fail
                  clear kX kR
                  refine wp_region_later_tail 3 (by kernel_rfl) (by kernel_rfl) ?_
                  simp only [List.take_succ_cons, List.take_zero, List.drop_succ_cons, List.drop_zero]
                  repeat ((go_big_quiet_step ((first | (go_at_call 38; with_reducible exact calls_later (HPR.out _)) | (go_at_call 42; with_reducible exact calls_later (HMI.out _))))))
                  refine wpQuiet_nil ?_
                  intro wL hwL
                  obtain ⟨⟨w8, hL⟩, e8⟩ := hwL
                  change wL = w8 at e8
                  subst e8
                  have kX : Kept wL _ _ := kept (jX ⟨_, hL⟩)
                  have kR : Kept wL _ _ := kept (jR ⟨_, hL⟩)
                  have b9 := hid (below_to b8.out hL)
                  clear jX jR hL b8
                  obtain ⟨gR, lR, nR, mR⟩ := kR
                  obtain ⟨gX, lX, nX, mX⟩ := kX
                  have hXN : (N + 1 = X) = False := by simp; omega
                  go_wp2_with fail
                  have hpp : 0 < pP := by decide
                  go_roundg (gk - pP)
                  case measure => omega
                  case rel => exact ⟨gk - pP, rfl, by omega, by rw [← hv2]; exact (Nat.mod_eq_sub_mod (by omega)).symm, by go_simp, by go_simp, below_blk' b9.out hWX _⟩

end Go.Proofs.Ytoaihbmicdbaiaa
