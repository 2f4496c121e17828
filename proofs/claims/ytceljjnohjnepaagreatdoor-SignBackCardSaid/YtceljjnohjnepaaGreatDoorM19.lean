/- Signatures, the program's: digests of texts as numbers, multiples of the base point, what a secret holds. Signatures, the program's: what a secret holds; its public key; its signature of a text. Signatures, the program's: which signatures are verified. -/
import Derived.Test.YtceljjnohjnepaaGreatDoorM14
import Derived.Test.YtceljjnohjnepaaGreatDoorM17
import Derived.Test.YtceljjnohjnepaaGreatDoorM18
namespace Go.Proofs.YtceljjnohjnepaaGreatDoor
open Go Go.RowKit DG EG

/-- What a secret holds, in memory. -/
def sgr (a : Nat) (pre : ByteArray) : Array Value := quad a ++ #[.string pre]
set_option maxRecDepth 100000 in
@[go_sem] theorem sgr_size (a : Nat) (pre : ByteArray) : (sgr a pre).size = 5 := by unfold sgr; simp only [Array.size_append, quad_size]; rfl
set_option maxRecDepth 100000 in
@[go_sem] theorem sgr_one (a : Nat) (pre : ByteArray) : ones (sgr a pre) = true := by unfold sgr; rw [ones_append, quad_one]; rfl
set_option maxRecDepth 100000 in
@[go_sem] theorem sgr_a (a : Nat) (pre : ByteArray) : (sgr a pre).extract 0 4 = quad a := by
  have e : sgr a pre = #[] ++ quad a ++ #[.string pre] := by unfold sgr; rw [Array.empty_append]
  rw [e]; exact ext_at _ _ _ 0 4 rfl (quad_size a)
set_option maxRecDepth 100000 in
theorem sgr_pre (a : Nat) (pre : ByteArray) : (sgr a pre)[4]? = some (.string pre) := by
  unfold sgr
  rw [Array.getElem?_append_right (by rw [quad_size]; omega), quad_size]
  rfl
set_option maxRecDepth 100000 in
theorem sg_zero : (#[.int .u64 0, .int .u64 0, .int .u64 0, .int .u64 0, .string ⟨#[]⟩] : Array Value) = sgr 0 ⟨#[]⟩ := rfl
set_option maxRecDepth 100000 in
theorem info_Sg : (Tryz.prog.info? 39).map (·.size) = some 5 := by kernel_rfl
                                                                                                                           theorem exl_Sg {r : Operand → Value} {dst : Option Nat} {x : Operand} {t : TypeId} {pos : String} {af : Array Edge} {g : Option (Nat × Bool)} : execOp r ⟨dst, .load 39 x, t, pos, af, g⟩ = (do let v ← loadRow 39 (r x); pure (Next.value v)) := rfl
                                                                                                                           theorem exs_Sg {r : Operand → Value} {dst : Option Nat} {x y : Operand} {t : TypeId} {pos : String} {af : Array Edge} {g : Option (Nat × Bool)} : execOp r ⟨dst, .store 39 x y, t, pos, af, g⟩ = (do storeRow 39 (r x) (r y); pure Next.skip) := rfl
                                                                                                                           theorem ldr_Sg (b : Nat) (w : World) : (loadRow 39 (.pointer (some ⟨b, 0, none⟩))).run Tryz.prog w = match hget w b with | some (.cells c _ _) => if c.size = 5 then .ok (.agg c) w else stuckL Tryz.prog 39 b w | _ => stuckL Tryz.prog 39 b w := loadRow_run Tryz.underlying39 rfl info_Sg b w
                                                                                                                           theorem str_Sg (b : Nat) (c' : Array Value) (w : World) : (storeRow 39 (.pointer (some ⟨b, 0, none⟩)) (.agg c')).run Tryz.prog w = match hget w b with | some (.cells c T (0, 0)) => if c.size = 5 then (if c'.size = 5 then (if ones c' = true then .ok () (blk w b (.cells c' T (0, 0))) else stuckS Tryz.prog 39 b (.agg c') w) else stuckS Tryz.prog 39 b (.agg c') w) else stuckS Tryz.prog 39 b (.agg c') w | _ => stuckS Tryz.prog 39 b (.agg c') w := storeRow_run info_Sg b c' w
set_option maxRecDepth 100000 in
theorem ldm_Sc (b off : Nat) (w : World) : (loadRow 37 (.pointer (some ⟨b, off, none⟩))).run Tryz.prog w = match hget w b with | some (.cells c _ _) => if off + 4 ≤ c.size then .ok (.agg (c.extract off (off + 4))) w else stuckM Tryz.prog 37 b off w | _ => stuckM Tryz.prog 37 b off w := loadMid_run Tryz.underlying37 rfl info_Sc b off w
def buildRowS (t : TypeId) (ps : Array (Nat × Value)) : Sem Value := Instr.build t ps
set_option maxRecDepth 100000 in
theorem exb_Sc {r : Operand → Value} {dst : Option Nat} {ps : Array (Nat × Operand)} {t : TypeId} {pos : String} {af : Array Edge} {g : Option (Nat × Bool)} : execOp r ⟨dst, .build 37 ps, t, pos, af, g⟩ = (do let v ← buildRowS 37 (ps.map fun (i, x) => (i, r x)); pure (Next.value v)) := rfl
set_option maxRecDepth 100000 in
theorem exb_Sg {r : Operand → Value} {dst : Option Nat} {ps : Array (Nat × Operand)} {t : TypeId} {pos : String} {af : Array Edge} {g : Option (Nat × Bool)} : execOp r ⟨dst, .build 39 ps, t, pos, af, g⟩ = (do let v ← buildRowS 39 (ps.map fun (i, x) => (i, r x)); pure (Next.value v)) := rfl
set_option maxRecDepth 100000 in
theorem bld_sc0 (w : World) : (buildRowS 37 #[]).run Tryz.prog w = .ok (.agg (quad 0)) w := run_build w 37 _ _ (by kernel_rfl)
set_option maxRecDepth 100000 in
theorem bld_sg0 (w : World) : (buildRowS 39 #[]).run Tryz.prog w = .ok (.agg (sgr 0 ⟨#[]⟩)) w := run_build w 39 _ _ (by kernel_rfl)
set_option maxRecDepth 100000 in
theorem bld_sg (a : Nat) (pre : ByteArray) (w : World) : (buildRowS 39 #[(0, .agg (quad a)), (1, .string pre)]).run Tryz.prog w = .ok (.agg (sgr a pre)) w := run_build w 39 _ _ (by kernel_rfl)
attribute [local go_sem ↓] exl_Sc exs_Sc exb_Sc exl_Sg exs_Sg exb_Sg exl_Pt exs_Pt
                                                                                                                                                                                                 attribute [local go_sem] ldm_Sc str_Sc bld_sc0 ldr_Sg str_Sg bld_sg bld_sg0 to_quad0 sg_zero ldr_Pt str_Pt pt_zero

/-- Texts in a row. -/
def strs (ss : List ByteArray) : Array Value := (ss.map Value.string).toArray
def Strs (w : World) (b : Nat) (ss : List ByteArray) : Prop := ∃ T fz, w.heap[b]? = some (.cells (strs ss) T fz)
set_option maxRecDepth 100000 in
theorem Strs.keep {w w' : World} {b : Nat} {ss : List ByteArray} (h : Strs w b ss) (hb : Below w.heap.size w w') : Strs w' b ss := by
  obtain ⟨T, f, h⟩ := h; exact ⟨T, f, keepB hb h⟩
set_option maxRecDepth 100000 in
theorem sha_strs (ss : List ByteArray) (b cap : Nat) (W : World) (hT : Tab W) (hS : Strs W b ss) (hb : (cat ss).length < 1152921504606846976 - 300) (hl : ss.length ≤ 9223372036854775807) :
    Calls Tryz.prog 40 #[.slice (some ⟨b, 0, none⟩) ss.length cap] W fun e w' => e = .returned (.string ⟨(SH.sha (cat ss)).toArray⟩) ∧ Below W.heap.size W w' := by
  obtain ⟨TG, fg, hG⟩ := hT
  obtain ⟨T, f, hS⟩ := hS
  refine sOf_any ss _ cap TG fg W hG hb hl (.inr ⟨b, 0, rfl, fun j hj => ?_⟩)
  rw [Nat.zero_add, cell_at hS]
  unfold strs
  simp [hj]
set_option maxRecDepth 100000 in
set_option maxHeartbeats 1000000 in
theorem sred_any (ss : List ByteArray) (b cap : Nat) (W : World) (hT : Tab W) (hS : Strs W b ss) (hb : (cat ss).length < 1152921504606846976 - 300) (hl : ss.length ≤ 9223372036854775807) :
    Calls Tryz.prog 19 #[.slice (some ⟨b, 0, none⟩) ss.length cap] W fun e w' => e = .returned (.agg (quad (redN (cat ss)))) ∧ Below W.heap.size W w' := by
  have H1 := hid (sha_strs ss b cap (W.alloc (.cells (quad 0) 37)) (hT.keep (below_new _)) (hS.keep (below_new _)) hb hl)
  have O1 := fun w => Of_64 (⟨(SH.sha (cat ss)).toArray⟩ : ByteArray) w (by show (SH.sha (cat ss)).toArray.size = 64; simp [SH.sha_length])
  rw [show bytesNat (⟨(SH.sha (cat ss)).toArray⟩ : ByteArray).data.toList % ordL = redN (cat ss) from rfl] at O1
  have O1 := hid O1
  generalize redN (cat ss) = n at *
  generalize (⟨(SH.sha (cat ss)).toArray⟩ : ByteArray) = h at *
  generalize ss.length = len at *
  clear hT hS hb hl
  go_enter Tryz.func19, Tryz.ntmps19
  go_wp2_with fail
  refine H1.out.mono ?_
  rintro e w1 ⟨rfl, hb1⟩
  have R1 := keepB hb1 (alloc_at W (.cells (quad 0) 37))
  have b1 := hid (below_to (below_new _) hb1)
  clear hb1
  obtain ⟨gR, lR, nR, mR⟩ := kept (show hget w1 (W.heap.size) = some (.cells (quad 0) 37 (0, 0)) by first | assumption | go_simp)
  go_wp2_with fail
  try clear jR
  refine (O1.out _).mono ?_
  rintro e w2 ⟨rfl, hb2⟩
  have kR := Kept.on (kept (b := W.heap.size) (o := .cells (quad 0) 37 (0, 0)) (by go_simp)) hb2
  have b2 : Hid (Below W.heap.size W w2) := below_to (by repeat (first | exact Below.refl _ _ | exact below_new _ | exact b1.out | assumption | refine Below.drew ?_ | refine Below.drewN ?_ _ | refine below_alloc ?_ _ | refine below_blk' ?_ (by omega) _)) hb2
  clear hb2
  try clear gR lR nR mR
  obtain ⟨gR, lR, nR, mR⟩ := kR
  clear b1
  go_upto_region 2 with (fail)
  obtain ⟨A, hA⟩ : ∃ b, w2.heap.size = b := ⟨_, rfl⟩
  have wA : W.heap.size ≤ A := by rw [← hA]; exact b2.out.size
  have eRA : (W.heap.size = A) = False := by rw [← hA]; exact nR
  have eAR : (A = W.heap.size) = False := by rw [← hA]; exact mR
  obtain ⟨w3, hw3⟩ : ∃ w3, w2.alloc (.cells (quad n) 37) = w3 := ⟨_, rfl⟩
  have kR := kept (show hget w3 (W.heap.size) = some (.cells (quad 0) 37 (0, 0)) by rw [← hw3]; clear hw3; go_simp)
  have kA := kept (show hget w3 (w2.heap.size) = some (.cells (quad n) 37) by rw [← hw3]; clear hw3; go_simp)
  have b3 : Hid (Below W.heap.size W w3) := by rw [← hw3]; repeat (first | exact Below.refl _ _ | exact below_new _ | exact b2.out | assumption | refine Below.drew ?_ | refine Below.drewN ?_ _ | refine below_alloc ?_ _ | refine below_blk' ?_ (by omega) _)
  rw [hw3]
  clear hw3
  try clear gR lR nR mR
  try clear jR
  have jR := kR.later
  obtain ⟨gR, lR, nR, mR⟩ := kR
  try clear gA lA nA mA
  try clear jA
  have jA := kA.later
  obtain ⟨gA, lA, nA, mA⟩ := kA
  clear b2
  rw [hA] at *
  clear hA
  go_wp2_with fail
  refine bodyPost_ret (v := .agg (quad n)) (results_cell_row Tryz.results19 _ _ (W.heap.size) 37 (quad n) (0, 0) _ (by rfl) (by rw [← hget_eq]; go_simp) Tryz.underlying37 rfl (by rw [info_Sc]; go_simp)) rfl ?_
  exact ⟨rfl, below_blk' b3.out (by omega) _⟩

/-- A multiple of the base point. -/
def bm (n : Nat) : P4 := P4.both (dP bsB) P4.zero 0 n
set_option maxRecDepth 100000 in
theorem bm_ok {n : Nat} (h : n < ordL) : (bm n).ok (Pt.mul n bP) := by
  have := P4.both_ok base_ok P4.zero_ok (m := 0) (n := n) (by decide) (Nat.lt_trans h (by decide))
  rw [Pt.mul_zero, Pt.zero_add] at this
  exact this
set_option maxRecDepth 100000 in
theorem stimes_core (n : Nat) (q : P4) (W : World) (h : n < ordL) (hq : bm n = q) : Calls Tryz.prog 20 #[.agg (quad n)] W fun e w' => e = .returned (pv q) ∧ Below W.heap.size W w' := by
  have Z1 := hid (fun w => pzero_any w)
  have B1 : Hid (∀ w, Calls Tryz.prog 33 #[pv P4.zero, .agg (quad 0), .agg (quad n)] w fun r w' => r = .returned (pv q) ∧ Below w.heap.size w w') := hid (fun w => hq ▸ pboth_v P4.zero 0 n w P4.zero_ok.bd (by decide) (Nat.lt_trans h (by decide)))
  clear hq h
  go_enter Tryz.func20, Tryz.ntmps20
  go_upto_region 1 with (fail)
  obtain ⟨w1, hw1⟩ : ∃ w1, (W.alloc (.cells (quad n) 37)).alloc (.cells (pt 0 0 0 0 false) 56) = w1 := ⟨_, rfl⟩
  have kN := kept (show hget w1 (W.heap.size) = some (.cells (quad n) 37 (0, 0)) by rw [← hw1]; clear hw1; go_simp)
  have kR := kept (show hget w1 (W.heap.size + 1) = some (.cells (pt 0 0 0 0 false) 56 (0, 0)) by rw [← hw1]; clear hw1; go_simp)
  have b1 : Hid (Below W.heap.size W w1) := by rw [← hw1]; repeat (first | exact Below.refl _ _ | exact below_new _ | assumption | refine Below.drew ?_ | refine Below.drewN ?_ _ | refine below_alloc ?_ _ | refine below_blk' ?_ (by omega) _)
  rw [hw1]
  clear hw1
  try clear gN lN nN mN
  try clear jN
  have jN := kN.later
  obtain ⟨gN, lN, nN, mN⟩ := kN
  try clear gR lR nR mR
  try clear jR
  have jR := kR.later
  obtain ⟨gR, lR, nR, mR⟩ := kR
  refine wp_region_later_tail 4 (by kernel_rfl) (by kernel_rfl) ?_
  simp only [List.take_succ_cons, List.take_zero, List.drop_succ_cons, List.drop_zero]
  repeat ((go_big_quiet_step ((first | (go_at_call 46; with_reducible exact calls_later (Z1.out _)) | (go_at_call 33; with_reducible exact calls_later (B1.out _))))))
  refine wpQuiet_nil ?_
  intro wL hwL
  obtain ⟨⟨w8, hL⟩, e8⟩ := hwL
  change wL = w8 at e8
  subst e8
  obtain ⟨gR, lR, nR, mR⟩ := kept (jR ⟨_, hL⟩)
  go_wp2_with fail
  refine bodyPost_ret (v := .agg (pt q.x q.y q.z q.t true)) (results_cell_row Tryz.results20 _ _ (W.heap.size + 1) 56 (pt q.x q.y q.z q.t true) (0, 0) _ (by rfl) (by rw [← hget_eq]; go_simp) Tryz.underlying56 rfl (by rw [info_Pt]; go_simp)) rfl ?_
  exact ⟨rfl, below_blk' (below_to b1.out hL) (by omega) _⟩
set_option maxRecDepth 100000 in
theorem stimes_any (n : Nat) (W : World) (h : n < ordL) : Calls Tryz.prog 20 #[.agg (quad n)] W fun e w' => e = .returned (pv (bm n)) ∧ Below W.heap.size W w' := stimes_core n _ W h rfl

end Go.Proofs.YtceljjnohjnepaaGreatDoor

namespace Go.Proofs.YtceljjnohjnepaaGreatDoor
open Go Go.RowKit DG EG
attribute [local go_sem ↓] exl_Sc exs_Sc exb_Sc exl_Sg exs_Sg exb_Sg exl_Pt exs_Pt
                       attribute [local go_sem] ldm_Sc str_Sc bld_sc0 ldr_Sg str_Sg bld_sg bld_sg0 to_quad0 sg_zero ldr_Pt str_Pt pt_zero

set_option maxRecDepth 100000 in
theorem cat1 (s : ByteArray) : cat [s] = s.data.toList := by simp [cat]
set_option maxRecDepth 100000 in
theorem cat2 (s t : ByteArray) : cat [s, t] = s.data.toList ++ t.data.toList := by simp [cat]
set_option maxRecDepth 100000 in
theorem cat3 (s t u : ByteArray) : cat [s, t, u] = s.data.toList ++ (t.data.toList ++ u.data.toList) := by simp [cat]
set_option maxRecDepth 100000 in
theorem sof_no (sec : ByteArray) (W : World) (h : sec.size ≠ 32) : Calls Tryz.prog 13 #[.string sec] W fun r w' => r = .returned (.tuple #[.agg (sgr 0 ⟨#[]⟩), .int .i64 2]) ∧ Below W.heap.size W w' := by
  have hn : ((sec.size : Int) != 32) = true := by rw [bne_iff_ne]; omega
  go_enter Tryz.func13, Tryz.ntmps13
  go_upto_region 1 with (fail)
  obtain ⟨w1, hw1⟩ : ∃ w1, W.alloc (.cells (sgr 0 ⟨#[]⟩) 39) = w1 := ⟨_, rfl⟩
  have kR := kept (show hget w1 (W.heap.size) = some (.cells (sgr 0 ⟨#[]⟩) 39 (0, 0)) by rw [← hw1]; clear hw1; go_simp)
  have b1 : Hid (Below W.heap.size W w1) := by rw [← hw1]; repeat (first | exact Below.refl _ _ | exact below_new _ | assumption | refine Below.drew ?_ | refine Below.drewN ?_ _ | refine below_alloc ?_ _ | refine below_blk' ?_ (by omega) _)
  rw [hw1]
  clear hw1
  try clear gR lR nR mR
  try clear jR
  have jR := kR.later
  obtain ⟨gR, lR, nR, mR⟩ := kR
  go_wp2_with fail
  refine bodyPost_ret (v := .tuple #[.agg (sgr 0 ⟨#[]⟩), .int .i64 2]) (results_cell_tmp Tryz.results13 _ _ (W.heap.size) 39 (sgr 0 ⟨#[]⟩) (0, 0) _ (.int .i64 2) (by rfl) (by rfl) (by rw [← hget_eq]; go_simp) Tryz.underlying39 rfl (by rw [info_Sg]; go_simp)) rfl ?_
  exact ⟨rfl, below_blk' b1.out (by omega) _⟩
set_option maxRecDepth 100000 in
set_option maxHeartbeats 1000000 in
theorem sof_core (sec H L C P : ByteArray) (a : Nat) (W : World) (hT : Tab W) (h : sec.size = 32) (hH : sgH sec = H) (hL : H.extract 0 32 = L) (hP : H.extract 32 64 = P) (hC : (⟨(clampL L.data.toList).toArray⟩ : ByteArray) = C) (ha : bytesNat C.data.toList % ordL = a) :
    Calls Tryz.prog 13 #[.string sec] W fun r w' => r = .returned (.tuple #[.agg (sgr a P), .int .i64 0]) ∧ Below W.heap.size W w' := by
  have zH : H.size = 64 := hH ▸ sgH_size sec
  have zL : L.size = 32 := by rw [← hL, ByteArray.size_extract, zH]; rfl
  have zC : C.size = 32 := by
    rw [← hC]
    show (clampL L.data.toList).toArray.size = 32
    unfold clampL
    simp [zL]
  have hn : ((sec.size : Int) != 32) = false := by rw [bne_eq_false_iff_eq]; omega
  have H1 : ∀ w b, Tab w → Strs w b [sec] → Calls Tryz.prog 40 #[.slice (some ⟨b, 0, none⟩) 1 1] w fun e w' => e = .returned (.string H) ∧ Below w.heap.size w w' := fun w b h1 h2 => by
    have h3 := sha_strs [sec] b 1 w h1 h2 (by rw [cat1]; have : sec.data.toList.length = 32 := by simpa using h
                                              omega) (show 1 ≤ 9223372036854775807 by decide)
    rw [cat1] at h3
    rw [← hH]
    exact h3
  have H1 := hid H1
  have C1 := hid (fun w => hC ▸ Clamp_32 L w zL)
  have O1 := hid (fun w => ha ▸ oOf_32 C w zC)
  have HT := hid hT
  clear hT hH hC ha h
  go_enter Tryz.func13, Tryz.ntmps13
  go_upto_region 1 with (fail)
  obtain ⟨w1, hw1⟩ : ∃ w1, W.alloc (.cells (sgr 0 ⟨#[]⟩) 39) = w1 := ⟨_, rfl⟩
  have kR := kept (show hget w1 (W.heap.size) = some (.cells (sgr 0 ⟨#[]⟩) 39 (0, 0)) by rw [← hw1]; clear hw1; go_simp)
  have b1 : Hid (Below W.heap.size W w1) := by rw [← hw1]; repeat (first | exact Below.refl _ _ | exact below_new _ | assumption | refine Below.drew ?_ | refine Below.drewN ?_ _ | refine below_alloc ?_ _ | refine below_blk' ?_ (by omega) _)
  rw [hw1]
  clear hw1
  try clear gR lR nR mR
  try clear jR
  have jR := kR.later
  obtain ⟨gR, lR, nR, mR⟩ := kR
  have T1 := hid (HT.out.keep b1.out)
  go_wp2_with fail
  refine (H1.out (w1.alloc (.cells #[.string sec] 9)) _ (T1.out.keep (below_new _)) ⟨_, _, alloc_at _ _⟩).mono ?_
  rintro e w2 ⟨rfl, hb2⟩
  simp only []
  have k2 := keepB hb2 (keepB (below_new (.cells #[.string sec] 9)) gR)
  have b2 := hid (below_to b1.out (below_to (below_new _) hb2))
  clear hb2 gR lR nR mR jR
  obtain ⟨gR, lR, nR, mR⟩ := kept (show hget w2 (W.heap.size) = some (.cells (sgr 0 ⟨#[]⟩) 39 (0, 0)) by first | assumption | go_simp)
  clear k2
  go_wp2_with fail
  try clear jR
  refine (C1.out _).mono ?_
  rintro e w3 ⟨rfl, hb3⟩
  have kR := Kept.on (kept (b := W.heap.size) (o := .cells (sgr 0 ⟨#[]⟩) 39 (0, 0)) (by go_simp)) hb3
  have b3 : Hid (Below W.heap.size W w3) := below_to (by repeat (first | exact Below.refl _ _ | exact below_new _ | exact b2.out | assumption | refine Below.drew ?_ | refine Below.drewN ?_ _ | refine below_alloc ?_ _ | refine below_blk' ?_ (by omega) _)) hb3
  clear hb3
  try clear gR lR nR mR
  obtain ⟨gR, lR, nR, mR⟩ := kR
  clear b2
  go_wp2_with fail
  try clear jR
  refine (O1.out _).mono ?_
  rintro e w4 ⟨rfl, hb4⟩
  have kR := Kept.on (kept (b := W.heap.size) (o := .cells (sgr 0 ⟨#[]⟩) 39 (0, 0)) (by go_simp)) hb4
  have b4 : Hid (Below W.heap.size W w4) := below_to (by repeat (first | exact Below.refl _ _ | exact below_new _ | exact b3.out | assumption | refine Below.drew ?_ | refine Below.drewN ?_ _ | refine below_alloc ?_ _ | refine below_blk' ?_ (by omega) _)) hb4
  clear hb4
  try clear gR lR nR mR
  obtain ⟨gR, lR, nR, mR⟩ := kR
  clear b3
  go_upto_region 6 with (fail)
  obtain ⟨A, hA⟩ : ∃ b, w4.heap.size = b := ⟨_, rfl⟩
  have wA : W.heap.size ≤ A := by rw [← hA]; exact b4.out.size
  have eRA : (W.heap.size = A) = False := by rw [← hA]; exact nR
  have eAR : (A = W.heap.size) = False := by rw [← hA]; exact mR
  obtain ⟨w5, hw5⟩ : ∃ w5, w4.alloc (.cells (quad a) 37) = w5 := ⟨_, rfl⟩
  have kR := kept (show hget w5 (W.heap.size) = some (.cells (sgr 0 ⟨#[]⟩) 39 (0, 0)) by rw [← hw5]; clear hw5; go_simp)
  have kA := kept (show hget w5 (w4.heap.size) = some (.cells (quad a) 37) by rw [← hw5]; clear hw5; go_simp)
  have b5 : Hid (Below W.heap.size W w5) := by rw [← hw5]; repeat (first | exact Below.refl _ _ | exact below_new _ | exact b4.out | assumption | refine Below.drew ?_ | refine Below.drewN ?_ _ | refine below_alloc ?_ _ | refine below_blk' ?_ (by omega) _)
  rw [hw5]
  clear hw5
  try clear gR lR nR mR
  try clear jR
  have jR := kR.later
  obtain ⟨gR, lR, nR, mR⟩ := kR
  try clear gA lA nA mA
  try clear jA
  have jA := kA.later
  obtain ⟨gA, lA, nA, mA⟩ := kA
  clear b4
  rw [hA] at *
  clear hA
  refine wp_region_later_tail 4 (by kernel_rfl) (by kernel_rfl) ?_
  simp only [List.take_succ_cons, List.take_zero, List.drop_succ_cons, List.drop_zero]
  repeat ((go_big_quiet_step ((fail))))
  refine wpQuiet_nil ?_
  intro wL hwL
  obtain ⟨⟨w8, hL⟩, e8⟩ := hwL
  change wL = w8 at e8
  subst e8
  obtain ⟨gR, lR, nR, mR⟩ := kept (jR ⟨_, hL⟩)
  go_wp2_with fail
  refine bodyPost_ret (v := .tuple #[.agg (sgr a P), .int .i64 0]) (results_cell_tmp Tryz.results13 _ _ (W.heap.size) 39 (sgr a P) (0, 0) _ (.int .i64 0) (by rfl) (by rfl) (by rw [← hget_eq]; go_simp) Tryz.underlying39 rfl (by rw [info_Sg]; go_simp)) rfl ?_
  exact ⟨rfl, below_blk' (below_to b5.out hL) (by omega) _⟩
set_option maxRecDepth 100000 in
theorem ba_list (l : List UInt8) : (⟨l.toArray⟩ : ByteArray).data.toList = l := rfl
set_option maxRecDepth 100000 in
theorem sof_yes (sec : ByteArray) (W : World) (hT : Tab W) (h : sec.size = 32) : Calls Tryz.prog 13 #[.string sec] W fun r w' => r = .returned (.tuple #[.agg (sgr (sgA sec) (sgPre sec)), .int .i64 0]) ∧ Below W.heap.size W w' := by
  have e3 : bytesNat (⟨(clampL (sgL sec).data.toList).toArray⟩ : ByteArray).data.toList % ordL = sgA sec := by
    rw [ba_list]
    unfold sgA ck
    with_reducible rfl
  have e1 : (sgH sec).extract 0 32 = sgL sec := by unfold sgL; with_reducible rfl
  have e2 : (sgH sec).extract 32 64 = sgPre sec := by unfold sgPre; with_reducible rfl
  exact sof_core sec (sgH sec) (sgL sec) ⟨(clampL (sgL sec).data.toList).toArray⟩ (sgPre sec) (sgA sec) W hT h rfl e1 e2 rfl e3
set_option maxRecDepth 100000 in
set_option maxHeartbeats 1000000 in
theorem spub_any (a : Nat) (pre : ByteArray) (W : World) (ha : a < ordL) : Calls Tryz.prog 14 #[.agg (sgr a pre)] W fun r w' => r = .returned (.string (ptB (Pt.mul a bP))) ∧ Below W.heap.size W w' := by
  have M1 := fun w => stimes_any a w ha
  have Y1 : ∀ w, Calls Tryz.prog 21 #[pv (bm a)] w fun r w' => r = .returned (.string (ptB (Pt.mul a bP))) ∧ Below w.heap.size w w' := fun w => by
    have h := pbytes_v (bm a) w (bm_ok ha).bd
    rw [show (bm a).bytes = ptB (Pt.mul a bP) from P4.ok_bytes (bm_ok ha)] at h
    exact h
  generalize ptB (Pt.mul a bP) = S at *
  generalize bm a = q at *
  have M1 := hid M1
  have Y1 := hid Y1
  go_enter Tryz.func14, Tryz.ntmps14
  go_upto_region 1 with (fail)
  obtain ⟨w1, hw1⟩ : ∃ w1, W.alloc (.cells (sgr a pre) 39) = w1 := ⟨_, rfl⟩
  have kR := kept (show hget w1 (W.heap.size) = some (.cells (sgr a pre) 39 (0, 0)) by rw [← hw1]; clear hw1; go_simp)
  have b1 : Hid (Below W.heap.size W w1) := by rw [← hw1]; repeat (first | exact Below.refl _ _ | exact below_new _ | assumption | refine Below.drew ?_ | refine Below.drewN ?_ _ | refine below_alloc ?_ _ | refine below_blk' ?_ (by omega) _)
  rw [hw1]
  clear hw1
  try clear gR lR nR mR
  try clear jR
  have jR := kR.later
  obtain ⟨gR, lR, nR, mR⟩ := kR
  go_wp2_with fail
  try clear jR
  refine (M1.out _).mono ?_
  rintro e w2 ⟨rfl, hb2⟩
  have kR := Kept.on (kept (b := W.heap.size) (o := .cells (sgr a pre) 39 (0, 0)) (by go_simp)) hb2
  have b2 : Hid (Below W.heap.size W w2) := below_to (by repeat (first | exact Below.refl _ _ | exact below_new _ | exact b1.out | assumption | refine Below.drew ?_ | refine Below.drewN ?_ _ | refine below_alloc ?_ _ | refine below_blk' ?_ (by omega) _)) hb2
  clear hb2
  try clear gR lR nR mR
  obtain ⟨gR, lR, nR, mR⟩ := kR
  clear b1
  go_wp2_with fail
  try clear jR
  refine (Y1.out _).mono ?_
  rintro e w3 ⟨rfl, hb3⟩
  have kR := Kept.on (kept (b := W.heap.size) (o := .cells (sgr a pre) 39 (0, 0)) (by go_simp)) hb3
  have b3 : Hid (Below W.heap.size W w3) := below_to (by repeat (first | exact Below.refl _ _ | exact below_new _ | exact b2.out | assumption | refine Below.drew ?_ | refine Below.drewN ?_ _ | refine below_alloc ?_ _ | refine below_blk' ?_ (by omega) _)) hb3
  clear hb3
  try clear gR lR nR mR
  obtain ⟨gR, lR, nR, mR⟩ := kR
  clear b2
  go_wp2_with fail
  go_ret
  exact ⟨rfl, b3.out⟩

/-- A secret's public key: the text, and the error. -/
def spS (sec : ByteArray) : ByteArray := if sec.size = 32 then pubB sec else ⟨#[]⟩
def spE (sec : ByteArray) : Int := if sec.size = 32 then 0 else 2
set_option maxRecDepth 100000 in
set_option maxHeartbeats 1000000 in
theorem spublic_any (sec : ByteArray) (W : World) (hT : Tab W) : Calls Tryz.prog 7 #[.string sec] W fun r w' => r = .returned (.tuple #[.string (spS sec), .int .i64 (spE sec)]) ∧ Below W.heap.size W w' := by
  unfold spS spE
  by_cases h : sec.size = 32
  · rw [if_pos h, if_pos h]
    have F1 := hid (sof_yes sec W hT h)
    have U1 := hid (fun w => spub_any (sgA sec) (sgPre sec) w (sgA_lt sec))
    rw [show ptB (Pt.mul (sgA sec) bP) = pubB sec from rfl] at U1
    generalize sgA sec = a at *
    generalize sgPre sec = p at *
    generalize pubB sec = S at *
    clear hT h
    go_enter Tryz.func7, Tryz.ntmps7
    go_wp2_with fail
    refine F1.out.mono ?_
    rintro e w1 ⟨rfl, hb1⟩
    have b1 := hid hb1
    clear hb1
    go_upto_region 2 with (fail)
    skip
    obtain ⟨A, hA⟩ : ∃ b, w1.heap.size = b := ⟨_, rfl⟩
    have wA : W.heap.size ≤ A := by rw [← hA]; exact b1.out.size
    obtain ⟨w2, hw2⟩ : ∃ w2, w1.alloc (.cells (sgr a p) 39) = w2 := ⟨_, rfl⟩
    have kA := kept (show hget w2 (w1.heap.size) = some (.cells (sgr a p) 39) by rw [← hw2]; clear hw2; go_simp)
    have b2 : Hid (Below W.heap.size W w2) := by rw [← hw2]; repeat (first | exact Below.refl _ _ | exact below_new _ | exact b1.out | assumption | refine Below.drew ?_ | refine Below.drewN ?_ _ | refine below_alloc ?_ _ | refine below_blk' ?_ (by omega) _)
    rw [hw2]
    clear hw2
    try clear gA lA nA mA
    try clear jA
    have jA := kA.later
    obtain ⟨gA, lA, nA, mA⟩ := kA
    clear b1
    rw [hA] at *
    clear hA
    go_wp2_with fail
    try clear jA
    refine (U1.out _).mono ?_
    rintro e w3 ⟨rfl, hb3⟩
    have kA := Kept.on (kept (b := A) (o := .cells (sgr a p) 39 (0, 0)) (by go_simp)) hb3
    have b3 : Hid (Below W.heap.size W w3) := below_to (by repeat (first | exact Below.refl _ _ | exact below_new _ | exact b2.out | assumption | refine Below.drew ?_ | refine Below.drewN ?_ _ | refine below_alloc ?_ _ | refine below_blk' ?_ (by omega) _)) hb3
    clear hb3
    try clear gA lA nA mA
    obtain ⟨gA, lA, nA, mA⟩ := kA
    clear b2
    go_wp2_with fail
    go_ret2
    exact ⟨rfl, b3.out⟩
  · rw [if_neg h, if_neg h]
    have F1 := hid (sof_no sec W h)
    clear hT h
    go_enter Tryz.func7, Tryz.ntmps7
    go_wp2_with fail
    refine F1.out.mono ?_
    rintro e w1 ⟨rfl, hb1⟩
    have b1 := hid hb1
    clear hb1
    go_upto_region 2 with (fail)
    skip
    obtain ⟨A, hA⟩ : ∃ b, w1.heap.size = b := ⟨_, rfl⟩
    have wA : W.heap.size ≤ A := by rw [← hA]; exact b1.out.size
    obtain ⟨w2, hw2⟩ : ∃ w2, w1.alloc (.cells (sgr 0 ⟨#[]⟩) 39) = w2 := ⟨_, rfl⟩
    have kA := kept (show hget w2 (w1.heap.size) = some (.cells (sgr 0 ⟨#[]⟩) 39) by rw [← hw2]; clear hw2; go_simp)
    have b2 : Hid (Below W.heap.size W w2) := by rw [← hw2]; repeat (first | exact Below.refl _ _ | exact below_new _ | exact b1.out | assumption | refine Below.drew ?_ | refine Below.drewN ?_ _ | refine below_alloc ?_ _ | refine below_blk' ?_ (by omega) _)
    rw [hw2]
    clear hw2
    try clear gA lA nA mA
    try clear jA
    have jA := kA.later
    obtain ⟨gA, lA, nA, mA⟩ := kA
    clear b1
    rw [hA] at *
    clear hA
    go_wp2_with fail
    go_ret2
    exact ⟨rfl, b2.out⟩

/-- A signature: the text, and the error. -/
def siS (sec s : ByteArray) : ByteArray := if sec.size = 32 then sigB sec s else ⟨#[]⟩
set_option maxRecDepth 100000 in
theorem ssign_no (sec s : ByteArray) (W : World) (h : sec.size ≠ 32) : Calls Tryz.prog 9 #[.string sec, .string s] W fun r w' => r = .returned (.tuple #[.string ⟨#[]⟩, .int .i64 2]) ∧ Below W.heap.size W w' := by
  have F1 := hid (sof_no sec W h)
  clear h
  go_enter Tryz.func9, Tryz.ntmps9
  go_wp2_with fail
  refine F1.out.mono ?_
  rintro e w1 ⟨rfl, hb1⟩
  have b1 := hid hb1
  clear hb1
  go_upto_region 2 with (fail)
  skip
  obtain ⟨A, hA⟩ : ∃ b, w1.heap.size = b := ⟨_, rfl⟩
  have wA : W.heap.size ≤ A := by rw [← hA]; exact b1.out.size
  obtain ⟨w2, hw2⟩ : ∃ w2, w1.alloc (.cells (sgr 0 ⟨#[]⟩) 39) = w2 := ⟨_, rfl⟩
  have kA := kept (show hget w2 (w1.heap.size) = some (.cells (sgr 0 ⟨#[]⟩) 39) by rw [← hw2]; clear hw2; go_simp)
  have b2 : Hid (Below W.heap.size W w2) := by rw [← hw2]; repeat (first | exact Below.refl _ _ | exact below_new _ | exact b1.out | assumption | refine Below.drew ?_ | refine Below.drewN ?_ _ | refine below_alloc ?_ _ | refine below_blk' ?_ (by omega) _)
  rw [hw2]
  clear hw2
  try clear gA lA nA mA
  try clear jA
  have jA := kA.later
  obtain ⟨gA, lA, nA, mA⟩ := kA
  clear b1
  rw [hA] at *
  clear hA
  go_wp2_with fail
  go_ret2
  exact ⟨rfl, b2.out⟩
set_option maxRecDepth 100000 in
set_option maxHeartbeats 2000000 in
theorem ssign_core (sec s P Q U N : ByteArray) (a r k n : Nat) (W : World) (hT : Tab W) (h : sec.size = 32) (hs : s.size ≤ 1099511627776) (ha : sgA sec = a) (hP : sgPre sec = P) (hr : sgR sec s = r) (hQ : sgQ sec s = Q) (hU : pubB sec = U) (hk : sgK sec s = k) (hn : sgS sec s = n) (hN : n32B n = N) :
    Calls Tryz.prog 9 #[.string sec, .string s] W fun r w' => r = .returned (.tuple #[.string (Q ++ N), .int .i64 0]) ∧ Below W.heap.size W w' := by
  have la : a < ordL := ha ▸ sgA_lt sec
  have lr : r < ordL := hr ▸ redN_lt _
  have lk : k < ordL := hk ▸ redN_lt _
  have zQ : Q.size = 32 := hQ ▸ sgQ_size sec s
  have zU : U.size = 32 := hU ▸ pubB_size sec
  have zP : P.size = 32 := hP ▸ sgPre_size sec
  have zN : N.size = 32 := hN ▸ n32B_size n
  have hsl : s.data.toList.length = s.size := by simp
  have F1 := sof_yes sec W hT h
  rw [ha, hP] at F1
  have F1 := hid F1
  have D1 : ∀ w b, Tab w → Strs w b [P, s] → Calls Tryz.prog 19 #[.slice (some ⟨b, 0, none⟩) 2 2] w fun e w' => e = .returned (.agg (quad r)) ∧ Below w.heap.size w w' := fun w b h1 h2 => by
    have h3 := sred_any [P, s] b 2 w h1 h2 (by rw [cat2, List.length_append, hsl]; have : P.data.toList.length = 32 := by simpa using zP
                                               omega) (show 2 ≤ 9223372036854775807 by decide)
    rw [cat2, ← hP, show redN ((sgPre sec).data.toList ++ s.data.toList) = sgR sec s from rfl, hr] at h3
    exact h3
  have D1 := hid D1
  have D2 : ∀ w b, Tab w → Strs w b [Q, U, s] → Calls Tryz.prog 19 #[.slice (some ⟨b, 0, none⟩) 3 3] w fun e w' => e = .returned (.agg (quad k)) ∧ Below w.heap.size w w' := fun w b h1 h2 => by
    have h3 := sred_any [Q, U, s] b 3 w h1 h2 (by rw [cat3, List.length_append, List.length_append, hsl]
                                                  have h4 : Q.data.toList.length = 32 := by simpa using zQ
                                                  have h5 : U.data.toList.length = 32 := by simpa using zU
                                                  omega) (show 3 ≤ 9223372036854775807 by decide)
    rw [cat3, ← hQ, ← hU, show redN ((sgQ sec s).data.toList ++ ((pubB sec).data.toList ++ s.data.toList)) = sgK sec s from rfl, hk] at h3
    exact h3
  have D2 := hid D2
  have M1 := fun w => stimes_any r w lr
  have Y1 : ∀ w, Calls Tryz.prog 21 #[pv (bm r)] w fun r w' => r = .returned (.string Q) ∧ Below w.heap.size w w' := fun w => by
    have h := pbytes_v (bm r) w (bm_ok lr).bd
    rw [show (bm r).bytes = ptB (Pt.mul r bP) from P4.ok_bytes (bm_ok lr), ← hr, show ptB (Pt.mul (sgR sec s) bP) = sgQ sec s from rfl, hQ] at h
    rw [← hr]
    exact h
  generalize bm r = q at *
  have M1 := hid M1
  have Y1 := hid Y1
  have U1 := fun w => spub_any a P w la
  rw [show ptB (Pt.mul a bP) = U by rw [← hU, ← ha]; rfl] at U1
  have U1 := hid U1
  have A1 := fun w => MulAdd_any k a r w lk la lr
  rw [show (k * a + r) % ordL = n by rw [← hn, ← hk, ← ha, ← hr]; rfl] at A1
  have A1 := hid A1
  have B1 : Hid (∀ w, Calls Tryz.prog 23 #[.agg (quad n)] w fun e w' => e = .returned (.string N) ∧ Below w.heap.size w w') := hid (fun w => by
    have h := Bytes_any n w (Nat.lt_trans (hn ▸ sgS_lt sec s) (by decide))
    rw [show (⟨(natBytes n 32).toArray⟩ : ByteArray) = N from hN] at h
    exact h)
  have HT := hid hT
  clear hT h ha hP hr hQ hU hk hn hN la lr lk hsl
  go_enter Tryz.func9, Tryz.ntmps9
  go_wp2_with fail
  refine F1.out.mono ?_
  rintro e w1 ⟨rfl, hb1⟩
  have b1 := hid hb1
  clear hb1
  go_upto_region 2 with (fail)
  skip
  obtain ⟨G, hG⟩ : ∃ b, w1.heap.size = b := ⟨_, rfl⟩
  have wG : W.heap.size ≤ G := by rw [← hG]; exact b1.out.size
  obtain ⟨w2, hw2⟩ : ∃ w2, w1.alloc (.cells (sgr a P) 39) = w2 := ⟨_, rfl⟩
  have kG := kept (show hget w2 (w1.heap.size) = some (.cells (sgr a P) 39) by rw [← hw2]; clear hw2; go_simp)
  have b2 : Hid (Below W.heap.size W w2) := by rw [← hw2]; repeat (first | exact Below.refl _ _ | exact below_new _ | exact b1.out | assumption | refine Below.drew ?_ | refine Below.drewN ?_ _ | refine below_alloc ?_ _ | refine below_blk' ?_ (by omega) _)
  rw [hw2]
  clear hw2
  try clear gG lG nG mG
  try clear jG
  have jG := kG.later
  obtain ⟨gG, lG, nG, mG⟩ := kG
  clear b1
  rw [hG] at *
  clear hG
  have cG : w2.cell? ⟨G, 4, none⟩ = some (.string P) := by rw [cell_at (show w2.heap[G]? = _ from gG)]; exact sgr_pre a P
  go_wp2_with fail
  have T2 := hid ((HT.out.keep b2.out).keep (below_new (.cells #[.string P, .string s] 9)))
  refine (D1.out (w2.alloc (.cells #[.string P, .string s] 9)) _ T2.out ⟨_, _, alloc_at _ _⟩).mono ?_
  rintro e w3 ⟨rfl, hb3⟩
  simp only []
  have k3 := keepB hb3 (keepB (below_new (.cells #[.string P, .string s] 9)) gG)
  have b3 := hid (below_to b2.out (below_to (below_new _) hb3))
  clear hb3 gG lG nG mG jG cG T2 D1
  go_upto_region 5 with (fail)
  obtain ⟨gG, lG, nG, mG⟩ := kept (show hget w3 (G) = some (.cells (sgr a P) 39 (0, 0)) by first | assumption | go_simp)
  clear k3
  obtain ⟨R, hR⟩ : ∃ b, w3.heap.size = b := ⟨_, rfl⟩
  have wR : W.heap.size ≤ R := by rw [← hR]; exact b3.out.size
  have eGR : (G = R) = False := by rw [← hR]; exact nG
  have eRG : (R = G) = False := by rw [← hR]; exact mG
  obtain ⟨w4, hw4⟩ : ∃ w4, w3.alloc (.cells (quad r) 37) = w4 := ⟨_, rfl⟩
  have kG := kept (show hget w4 (G) = some (.cells (sgr a P) 39 (0, 0)) by rw [← hw4]; clear hw4; go_simp)
  have kR := kept (show hget w4 (w3.heap.size) = some (.cells (quad r) 37) by rw [← hw4]; clear hw4; go_simp)
  have b4 : Hid (Below W.heap.size W w4) := by rw [← hw4]; repeat (first | exact Below.refl _ _ | exact below_new _ | exact b3.out | assumption | refine Below.drew ?_ | refine Below.drewN ?_ _ | refine below_alloc ?_ _ | refine below_blk' ?_ (by omega) _)
  rw [hw4]
  clear hw4
  try clear gG lG nG mG
  try clear jG
  have jG := kG.later
  obtain ⟨gG, lG, nG, mG⟩ := kG
  try clear gR lR nR mR
  try clear jR
  have jR := kR.later
  obtain ⟨gR, lR, nR, mR⟩ := kR
  clear b3
  rw [hR] at *
  clear hR
  go_wp2_with fail
  try clear jG jR
  refine (M1.out _).mono ?_
  rintro e w5 ⟨rfl, hb5⟩
  have kG := Kept.on (kept (b := G) (o := .cells (sgr a P) 39 (0, 0)) (by go_simp)) hb5
  have kR := Kept.on (kept (b := R) (o := .cells (quad r) 37 (0, 0)) (by go_simp)) hb5
  have b5 : Hid (Below W.heap.size W w5) := below_to (by repeat (first | exact Below.refl _ _ | exact below_new _ | exact b4.out | assumption | refine Below.drew ?_ | refine Below.drewN ?_ _ | refine below_alloc ?_ _ | refine below_blk' ?_ (by omega) _)) hb5
  clear hb5
  try clear gG lG nG mG
  obtain ⟨gG, lG, nG, mG⟩ := kG
  try clear gR lR nR mR
  obtain ⟨gR, lR, nR, mR⟩ := kR
  clear b4
  go_wp2_with fail
  try clear jG jR
  refine (Y1.out _).mono ?_
  rintro e w6 ⟨rfl, hb6⟩
  have kG := Kept.on (kept (b := G) (o := .cells (sgr a P) 39 (0, 0)) (by go_simp)) hb6
  have kR := Kept.on (kept (b := R) (o := .cells (quad r) 37 (0, 0)) (by go_simp)) hb6
  have b6 : Hid (Below W.heap.size W w6) := below_to (by repeat (first | exact Below.refl _ _ | exact below_new _ | exact b5.out | assumption | refine Below.drew ?_ | refine Below.drewN ?_ _ | refine below_alloc ?_ _ | refine below_blk' ?_ (by omega) _)) hb6
  clear hb6
  try clear gG lG nG mG
  obtain ⟨gG, lG, nG, mG⟩ := kG
  try clear gR lR nR mR
  obtain ⟨gR, lR, nR, mR⟩ := kR
  clear b5
  go_upto_region 6 with (fail)
  clear M1 Y1
  have hT6 := HT.out.keep b6.out
  have jG := Kept.later (kept gG)
  have jR := Kept.later (kept gR)
  refine wp_region_gho [5] (fun _ u w => ∃ b, u = .slice (some ⟨b, 0, none⟩) 3 3 ∧ w.heap[b]? = some (.cells #[.string Q, .string U, .string s] 9 (0, 0))) (by kernel_rfl) (by kernel_rfl) (by kernel_rfl) (fun _ u w w' ⟨b, h1, h2⟩ hb => ⟨b, h1, keepB hb h2⟩) ?_
  repeat (first | (refine wpGho_plain (by kernel_rfl) (by decide) (by rfl) (by rfl) (fun K hK => ?_); go_simp; refine hK _ ?_; clear hK K; try go_ints) | (refine wpGho_plain (by kernel_rfl) (by decide) (by rfl) (by rfl) (fun K hK => ?_); go_simp; refine ⟨_, fun x => U1.out _, hK _ ?_⟩; clear hK K; try go_ints))
  refine wpGho_make (by kernel_rfl) (by decide) (by rfl) (by rfl) (by rfl) (fun K hK => ?_)
  go_simp
  refine ⟨fun x => ⟨below_new _, _, rfl, alloc_at _ _⟩, hK _ ?_⟩
  clear hK K
  refine wpGho_read (by decide) (by rfl) (fun K hK => ?_)
  refine ⟨.agg (quad k), fun g x hR => ?_, hK _ ?_⟩
  · obtain ⟨b8, hb8, hc8⟩ := hR 5 (by decide) (by kernel_rfl)
    rw [show ∀ a, over _ [5] g a = Act.put a (some 31) (g 5) from fun _ => rfl, hb8]
    have C1 := D2.out x.w' b8 (hT6.keep x.h) ⟨_, _, hc8⟩
    clear hR
    go_simp
    done
  clear hK K
  simp only [Act.put, List.setIfInBounds_toArray, List.set_cons_zero, List.set_cons_succ]
  repeat (first | (refine wpGho_plain (by kernel_rfl) (by decide) (by rfl) (by rfl) (fun K hK => ?_); go_simp; refine hK _ ?_; clear hK K; try go_ints) | (refine wpGho_plain (by kernel_rfl) (by decide) (by rfl) (by rfl) (fun K hK => ?_); go_simp; refine ⟨_, fun x => A1.out _, hK _ ?_⟩; clear hK K; try go_ints) | (refine wpGho_plain (by kernel_rfl) (by decide) (by rfl) (by rfl) (fun K hK => ?_); go_simp; refine ⟨_, fun x => B1.out _, hK _ ?_⟩; clear hK K; try go_ints))
  refine wpGho_nil ?_
  intro g wM hwM hR
  obtain ⟨⟨w9, hM⟩, e9⟩ := hwM
  change wM = w9 at e9
  subst e9
  obtain ⟨b8, hb8, _⟩ := hR 5 (by decide)
  rw [show ∀ a, over _ [5] g a = Act.put a (some 31) (g 5) from fun _ => rfl, hb8]
  simp only [Act.put, List.setIfInBounds_toArray, List.set_cons_zero, List.set_cons_succ]
  clear hR hb8
  go_wp2_with fail
  go_ret2
  exact ⟨rfl, below_to b6.out hM⟩
set_option maxRecDepth 100000 in
theorem ssign_any (sec s : ByteArray) (W : World) (hT : Tab W) (hs : s.size ≤ 1099511627776) : Calls Tryz.prog 9 #[.string sec, .string s] W fun r w' => r = .returned (.tuple #[.string (siS sec s), .int .i64 (spE sec)]) ∧ Below W.heap.size W w' := by
  unfold siS spE
  by_cases h : sec.size = 32
  · rw [if_pos h, if_pos h]
    unfold sigB
    exact ssign_core sec s (sgPre sec) (sgQ sec s) (pubB sec) (n32B (sgS sec s)) (sgA sec) (sgR sec s) (sgK sec s) (sgS sec s) W hT h hs rfl rfl rfl rfl rfl rfl rfl rfl
  · rw [if_neg h, if_neg h]
    exact ssign_no sec s W h

end Go.Proofs.YtceljjnohjnepaaGreatDoor

namespace Go.Proofs.YtceljjnohjnepaaGreatDoor
open Go Go.RowKit DG EG
attribute [local go_sem ↓] exl_Sc exs_Sc exb_Sc exl_Sg exs_Sg exb_Sg exl_Pt exs_Pt
                       attribute [local go_sem] ldm_Sc str_Sc bld_sc0 ldr_Sg str_Sg bld_sg bld_sg0 to_quad0 sg_zero ldr_Pt str_Pt pt_zero

set_option maxRecDepth 100000 in
theorem few_v (a : P4) (W : World) (h : a.bd) : Calls Tryz.prog 29 #[pv a] W fun r w' => r = .returned (.bool (a.twice.twice.twice.same P4.zero)) ∧ Below W.heap.size W w' := by
  have b1 := P4.twice_bd h
  have b2 := P4.twice_bd b1
  have b3 := P4.twice_bd b2
  have T1 := fun w => ptwice_v a w h
  have T2 := fun w => ptwice_v a.twice w b1
  have T3 := fun w => ptwice_v a.twice.twice w b2
  have Z1 := hid (fun w => pzero_any w)
  have S1 := fun w => psame_v a.twice.twice.twice P4.zero w b3 P4.zero_ok.bd
  generalize a.twice.twice.twice.same P4.zero = V at *
  generalize a.twice.twice.twice = d at *
  generalize a.twice.twice = c at *
  generalize a.twice = b at *
  generalize P4.zero = z at *
  have T1 := hid T1
  have T2 := hid T2
  have T3 := hid T3
  have S1 := hid S1
  clear h b1 b2 b3
  go_enter Tryz.func29, Tryz.ntmps29
  go_upto_region 1 with (fail)
  obtain ⟨w1, hw1⟩ : ∃ w1, W.alloc (.cells (pt a.x a.y a.z a.t true) 56) = w1 := ⟨_, rfl⟩
  have kR := kept (show hget w1 (W.heap.size) = some (.cells (pt a.x a.y a.z a.t true) 56 (0, 0)) by rw [← hw1]; clear hw1; go_simp)
  have b1 : Hid (Below W.heap.size W w1) := by rw [← hw1]; repeat (first | exact Below.refl _ _ | exact below_new _ | assumption | refine Below.drew ?_ | refine Below.drewN ?_ _ | refine below_alloc ?_ _ | refine below_blk' ?_ (by omega) _)
  rw [hw1]
  clear hw1
  try clear gR lR nR mR
  try clear jR
  have jR := kR.later
  obtain ⟨gR, lR, nR, mR⟩ := kR
  go_wp2_with fail
  try clear jR
  refine (T1.out _).mono ?_
  rintro e w2 ⟨rfl, hb2⟩
  have kR := Kept.on (kept (b := W.heap.size) (o := .cells (pt a.x a.y a.z a.t true) 56 (0, 0)) (by go_simp)) hb2
  have b2 : Hid (Below W.heap.size W w2) := below_to (by repeat (first | exact Below.refl _ _ | exact below_new _ | exact b1.out | assumption | refine Below.drew ?_ | refine Below.drewN ?_ _ | refine below_alloc ?_ _ | refine below_blk' ?_ (by omega) _)) hb2
  clear hb2
  try clear gR lR nR mR
  obtain ⟨gR, lR, nR, mR⟩ := kR
  clear b1
  go_wp2_with fail
  try clear jR
  refine (T2.out _).mono ?_
  rintro e w3 ⟨rfl, hb3⟩
  have kR := Kept.on (kept (b := W.heap.size) (o := .cells (pt a.x a.y a.z a.t true) 56 (0, 0)) (by go_simp)) hb3
  have b3 : Hid (Below W.heap.size W w3) := below_to (by repeat (first | exact Below.refl _ _ | exact below_new _ | exact b2.out | assumption | refine Below.drew ?_ | refine Below.drewN ?_ _ | refine below_alloc ?_ _ | refine below_blk' ?_ (by omega) _)) hb3
  clear hb3
  try clear gR lR nR mR
  obtain ⟨gR, lR, nR, mR⟩ := kR
  clear b2
  go_wp2_with fail
  try clear jR
  refine (T3.out _).mono ?_
  rintro e w4 ⟨rfl, hb4⟩
  have kR := Kept.on (kept (b := W.heap.size) (o := .cells (pt a.x a.y a.z a.t true) 56 (0, 0)) (by go_simp)) hb4
  have b4 : Hid (Below W.heap.size W w4) := below_to (by repeat (first | exact Below.refl _ _ | exact below_new _ | exact b3.out | assumption | refine Below.drew ?_ | refine Below.drewN ?_ _ | refine below_alloc ?_ _ | refine below_blk' ?_ (by omega) _)) hb4
  clear hb4
  try clear gR lR nR mR
  obtain ⟨gR, lR, nR, mR⟩ := kR
  clear b3
  go_wp2_with fail
  try clear jR
  refine (Z1.out _).mono ?_
  rintro e w5 ⟨rfl, hb5⟩
  have kR := Kept.on (kept (b := W.heap.size) (o := .cells (pt a.x a.y a.z a.t true) 56 (0, 0)) (by go_simp)) hb5
  have b5 : Hid (Below W.heap.size W w5) := below_to (by repeat (first | exact Below.refl _ _ | exact below_new _ | exact b4.out | assumption | refine Below.drew ?_ | refine Below.drewN ?_ _ | refine below_alloc ?_ _ | refine below_blk' ?_ (by omega) _)) hb5
  clear hb5
  try clear gR lR nR mR
  obtain ⟨gR, lR, nR, mR⟩ := kR
  clear b4
  go_wp2_with fail
  try clear jR
  refine (S1.out _).mono ?_
  rintro e w6 ⟨rfl, hb6⟩
  have kR := Kept.on (kept (b := W.heap.size) (o := .cells (pt a.x a.y a.z a.t true) 56 (0, 0)) (by go_simp)) hb6
  have b6 : Hid (Below W.heap.size W w6) := below_to (by repeat (first | exact Below.refl _ _ | exact below_new _ | exact b5.out | assumption | refine Below.drew ?_ | refine Below.drewN ?_ _ | refine below_alloc ?_ _ | refine below_blk' ?_ (by omega) _)) hb6
  clear hb6
  try clear gR lR nR mR
  obtain ⟨gR, lR, nR, mR⟩ := kR
  clear b5
  go_wp2_with fail
  go_ret
  exact ⟨rfl, b6.out⟩
set_option maxRecDepth 100000 in
theorem few_iff {a : P4} {p : Pt cv} (h : a.ok p) : a.twice.twice.twice.same P4.zero = true ↔ Pt.mul 8 p = Pt.zero := by
  rw [P4.same_iff (P4.twice_ok (P4.twice_ok (P4.twice_ok h))) P4.zero_ok]
  rw [show (8 : Nat) = (2 + 2) + (2 + 2) from rfl, Pt.mul_add, Pt.mul_add, show (2 : Nat) = 1 + 1 from rfl, Pt.mul_add, Pt.mul_one]
set_option maxRecDepth 100000 in
theorem decV_form (s : ByteArray) : ∃ x y z t b c, decV s = .tuple #[.agg (pt x y z t b), .int .i64 c] ∧ (c = 0 ↔ dOk s = true) := by
  unfold decV
  by_cases h : dOk s = true
  · rw [if_pos h]
    exact ⟨_, _, _, _, _, _, rfl, ⟨fun _ => h, fun _ => rfl⟩⟩
  · rw [if_neg h]
    refine ⟨_, _, _, _, _, _, rfl, ⟨fun h0 => ?_, fun h1 => absurd h1 h⟩⟩
    split at h0 <;> exact absurd h0 (by decide)
set_option maxRecDepth 100000 in
theorem sverify_short (pub s sig : ByteArray) (W : World) (h : sig.size ≠ 64) : Calls Tryz.prog 11 #[.string pub, .string s, .string sig] W fun r w' => r = .returned (.bool false) ∧ Below W.heap.size W w' := by
  have hn : ((sig.size : Int) != 64) = true := by rw [bne_iff_ne]; omega
  clear h
  go_enter Tryz.func11, Tryz.ntmps11
  go_wp2_with fail
  go_ret
  exact ⟨rfl, Below.refl _ _⟩
set_option maxRecDepth 100000 in
set_option maxHeartbeats 1000000 in
theorem sverify_bad (pub s sig R S : ByteArray) (x y z t x' y' z' t' : Nat) (b b' : Bool) (c c' : Int) (W : World) (h : sig.size = 64) (hR : sig.extract 0 32 = R) (hS : sig.extract 32 64 = S) (hp : pub.size ≤ 9223372036854775807)
    (h1 : decV pub = .tuple #[.agg (pt x y z t b), .int .i64 c]) (h2 : decV R = .tuple #[.agg (pt x' y' z' t' b'), .int .i64 c']) (hc : c ≠ 0 ∨ c' ≠ 0) :
    Calls Tryz.prog 11 #[.string pub, .string s, .string sig] W fun r w' => r = .returned (.bool false) ∧ Below W.heap.size W w' := by
  have zR : R.size = 32 := by rw [← hR, ByteArray.size_extract, h]; rfl
  have D1 := hid (fun w => h1 ▸ pdecode_v pub w hp)
  have D2 := hid (fun w => h2 ▸ pdecode_v R w (by omega))
  have hn : ((sig.size : Int) != 64) = false := by rw [bne_eq_false_iff_eq]; omega
  clear h1 h2 hp
  go_enter Tryz.func11, Tryz.ntmps11
  go_wp2_with fail
  refine wp_region_later (by kernel_rfl) (by kernel_rfl) ?_
  repeat ((go_big_quiet_step ((fail))))
  refine wpQuiet_nil ?_
  intro wL hwL
  obtain ⟨⟨w8, hL⟩, e8⟩ := hwL
  change wL = w8 at e8
  subst e8
  have b1 := hid hL
  clear hL
  generalize wL = w1 at *
  skip
  go_wp2_with fail
  skip
  refine (D1.out _).mono ?_
  rintro e w2 ⟨rfl, hb2⟩
  have b2 : Hid (Below W.heap.size W w2) := below_to (by repeat (first | exact Below.refl _ _ | exact below_new _ | exact b1.out | assumption | refine Below.drew ?_ | refine Below.drewN ?_ _ | refine below_alloc ?_ _ | refine below_blk' ?_ (by omega) _)) hb2
  clear hb2
  clear b1
  go_upto_region 5 with (fail)
  obtain ⟨A, hA⟩ : ∃ b, w2.heap.size = b := ⟨_, rfl⟩
  have wA : W.heap.size ≤ A := by rw [← hA]; exact b2.out.size
  obtain ⟨w3, hw3⟩ : ∃ w3, w2.alloc (.cells (pt x y z t b) 56) = w3 := ⟨_, rfl⟩
  have kA := kept (show hget w3 (w2.heap.size) = some (.cells (pt x y z t b) 56) by rw [← hw3]; clear hw3; go_simp)
  have b3 : Hid (Below W.heap.size W w3) := by rw [← hw3]; repeat (first | exact Below.refl _ _ | exact below_new _ | exact b2.out | assumption | refine Below.drew ?_ | refine Below.drewN ?_ _ | refine below_alloc ?_ _ | refine below_blk' ?_ (by omega) _)
  rw [hw3]
  clear hw3
  try clear gA lA nA mA
  try clear jA
  have jA := kA.later
  obtain ⟨gA, lA, nA, mA⟩ := kA
  clear b2
  rw [hA] at *
  clear hA
  go_wp2_with fail
  try clear jA
  refine (D2.out _).mono ?_
  rintro e w4 ⟨rfl, hb4⟩
  have kA := Kept.on (kept (b := A) (o := .cells (pt x y z t b) 56 (0, 0)) (by go_simp)) hb4
  have b4 : Hid (Below W.heap.size W w4) := below_to (by repeat (first | exact Below.refl _ _ | exact below_new _ | exact b3.out | assumption | refine Below.drew ?_ | refine Below.drewN ?_ _ | refine below_alloc ?_ _ | refine below_blk' ?_ (by omega) _)) hb4
  clear hb4
  try clear gA lA nA mA
  obtain ⟨gA, lA, nA, mA⟩ := kA
  clear b3
  go_upto_region 6 with (fail)
  obtain ⟨B, hB⟩ : ∃ b, w4.heap.size = b := ⟨_, rfl⟩
  have wB : W.heap.size ≤ B := by rw [← hB]; exact b4.out.size
  have eAB : (A = B) = False := by rw [← hB]; exact nA
  have eBA : (B = A) = False := by rw [← hB]; exact mA
  obtain ⟨w5, hw5⟩ : ∃ w5, w4.alloc (.cells (pt x' y' z' t' b') 56) = w5 := ⟨_, rfl⟩
  have kA := kept (show hget w5 (A) = some (.cells (pt x y z t b) 56 (0, 0)) by rw [← hw5]; clear hw5; go_simp)
  have kB := kept (show hget w5 (w4.heap.size) = some (.cells (pt x' y' z' t' b') 56) by rw [← hw5]; clear hw5; go_simp)
  have b5 : Hid (Below W.heap.size W w5) := by rw [← hw5]; repeat (first | exact Below.refl _ _ | exact below_new _ | exact b4.out | assumption | refine Below.drew ?_ | refine Below.drewN ?_ _ | refine below_alloc ?_ _ | refine below_blk' ?_ (by omega) _)
  rw [hw5]
  clear hw5
  try clear gA lA nA mA
  try clear jA
  have jA := kA.later
  obtain ⟨gA, lA, nA, mA⟩ := kA
  try clear gB lB nB mB
  try clear jB
  have jB := kB.later
  obtain ⟨gB, lB, nB, mB⟩ := kB
  clear b4
  rw [hB] at *
  clear hB
  by_cases h0 : c = 0
  · have q1 : (c != 0) = false := by rw [bne_eq_false_iff_eq]; exact h0
    have q2 : (c' != 0) = true := by rw [bne_iff_ne]; omega
    clear h0 hc
    go_wp2_with fail
    go_ret
    exact ⟨rfl, b5.out⟩
  · have q1 : (c != 0) = true := by rw [bne_iff_ne]; omega
    clear h0 hc
    go_wp2_with fail
    go_ret
    exact ⟨rfl, b5.out⟩
set_option maxRecDepth 100000 in
set_option maxHeartbeats 2000000 in
theorem sverify_core (pub s sig R S : ByteArray) (a q M v tn : P4) (k n : Nat) (F C V : Bool) (W : World) (hT : Tab W) (h : sig.size = 64) (hR : sig.extract 0 32 = R) (hS : sig.extract 32 64 = S) (hp : pub.size = 32) (hs : s.size ≤ 1099511627776)
    (h1 : decV pub = .tuple #[pv a, .int .i64 0]) (h2 : decV R = .tuple #[pv q, .int .i64 0]) (ba : a.bd) (bq : q.bd) (hF : a.twice.twice.twice.same P4.zero = F) (hC : ocanB S = C) (hk : redN (cat [R, pub, s]) = k) (hn : bytesNat S.data.toList % ordL = n)
    (hM : P4.both (dP bsB) a k 0 = M) (hv : q.add M = v) (ht : bm n = tn) (hV : v.same tn = V) :
    Calls Tryz.prog 11 #[.string pub, .string s, .string sig] W fun r w' => r = .returned (.bool (!F && C && V)) ∧ Below W.heap.size W w' := by
  have zR : R.size = 32 := by rw [← hR, ByteArray.size_extract, h]; rfl
  have zS : S.size = 32 := by rw [← hS, ByteArray.size_extract, h]; rfl
  have lk : k < ordL := hk ▸ redN_lt _
  have ln : n < ordL := hn ▸ Nat.mod_lt _ (by decide)
  have bM : M.bd := hM ▸ P4.both_bd P4.base_bd ba k 0
  have bv : v.bd := hv ▸ P4.add_bd bq bM
  have bt : tn.bd := ht ▸ (bm_ok ln).bd
  have hsl : s.data.toList.length = s.size := by simp
  have D1 := hid (fun w => h1 ▸ pdecode_v pub w (by omega))
  have D2 := hid (fun w => h2 ▸ pdecode_v R w (by omega))
  have F1 := hid (fun w => hF ▸ few_v a w ba)
  have C1 := hid (fun w => hC ▸ Canonical_any S w (by omega))
  have O1 := hid (fun w => hn ▸ oOf_32 S w zS)
  have K1 : ∀ w b, Tab w → Strs w b [R, pub, s] → Calls Tryz.prog 19 #[.slice (some ⟨b, 0, none⟩) 3 3] w fun e w' => e = .returned (.agg (quad k)) ∧ Below w.heap.size w w' := fun w b h1 h2 => by
    have h3 := sred_any [R, pub, s] b 3 w h1 h2 (by rw [cat3, List.length_append, List.length_append, hsl]
                                                    have h4 : R.data.toList.length = 32 := by simpa using zR
                                                    have h5 : pub.data.toList.length = 32 := by simpa using hp
                                                    omega) (show 3 ≤ 9223372036854775807 by decide)
    rw [hk] at h3
    exact h3
  have K1 := hid K1
  have B1 := hid (fun w => hM ▸ pboth_v a k 0 w ba (Nat.lt_trans lk (by decide)) (by decide))
  have A1 := hid (fun w => hv ▸ padd_v q M w bq bM)
  have M1 := hid (fun w => ht ▸ stimes_any n w ln)
  have S1 := hid (fun w => hV ▸ psame_v v tn w bv bt)
  have HT := hid hT
  have hn : ((sig.size : Int) != 64) = false := by rw [bne_eq_false_iff_eq]; omega
  clear h1 h2 hp hF hC hk hM hv ht hV ba bq lk ln bM bv bt hsl hT
  go_enter Tryz.func11, Tryz.ntmps11
  go_wp2_with fail
  refine wp_region_later (by kernel_rfl) (by kernel_rfl) ?_
  repeat ((go_big_quiet_step ((fail))))
  refine wpQuiet_nil ?_
  intro wL hwL
  obtain ⟨⟨w8, hL⟩, e8⟩ := hwL
  change wL = w8 at e8
  subst e8
  have b1 := hid hL
  clear hL
  generalize wL = w1 at *
  skip
  go_wp2_with fail
  skip
  refine (D1.out _).mono ?_
  rintro e w2 ⟨rfl, hb2⟩
  have b2 : Hid (Below W.heap.size W w2) := below_to (by repeat (first | exact Below.refl _ _ | exact below_new _ | exact b1.out | assumption | refine Below.drew ?_ | refine Below.drewN ?_ _ | refine below_alloc ?_ _ | refine below_blk' ?_ (by omega) _)) hb2
  clear hb2
  clear b1
  go_upto_region 5 with (fail)
  obtain ⟨A, hA⟩ : ∃ b, w2.heap.size = b := ⟨_, rfl⟩
  have wA : W.heap.size ≤ A := by rw [← hA]; exact b2.out.size
  obtain ⟨w3, hw3⟩ : ∃ w3, w2.alloc (.cells (pt a.x a.y a.z a.t true) 56) = w3 := ⟨_, rfl⟩
  have kA := kept (show hget w3 (w2.heap.size) = some (.cells (pt a.x a.y a.z a.t true) 56) by rw [← hw3]; clear hw3; go_simp)
  have b3 : Hid (Below W.heap.size W w3) := by rw [← hw3]; repeat (first | exact Below.refl _ _ | exact below_new _ | exact b2.out | assumption | refine Below.drew ?_ | refine Below.drewN ?_ _ | refine below_alloc ?_ _ | refine below_blk' ?_ (by omega) _)
  rw [hw3]
  clear hw3
  try clear gA lA nA mA
  try clear jA
  have jA := kA.later
  obtain ⟨gA, lA, nA, mA⟩ := kA
  clear b2
  rw [hA] at *
  clear hA
  go_wp2_with fail
  try clear jA
  refine (D2.out _).mono ?_
  rintro e w4 ⟨rfl, hb4⟩
  have kA := Kept.on (kept (b := A) (o := .cells (pt a.x a.y a.z a.t true) 56 (0, 0)) (by go_simp)) hb4
  have b4 : Hid (Below W.heap.size W w4) := below_to (by repeat (first | exact Below.refl _ _ | exact below_new _ | exact b3.out | assumption | refine Below.drew ?_ | refine Below.drewN ?_ _ | refine below_alloc ?_ _ | refine below_blk' ?_ (by omega) _)) hb4
  clear hb4
  try clear gA lA nA mA
  obtain ⟨gA, lA, nA, mA⟩ := kA
  clear b3
  go_upto_region 6 with (fail)
  obtain ⟨B, hB⟩ : ∃ b, w4.heap.size = b := ⟨_, rfl⟩
  have wB : W.heap.size ≤ B := by rw [← hB]; exact b4.out.size
  have eAB : (A = B) = False := by rw [← hB]; exact nA
  have eBA : (B = A) = False := by rw [← hB]; exact mA
  obtain ⟨w5, hw5⟩ : ∃ w5, w4.alloc (.cells (pt q.x q.y q.z q.t true) 56) = w5 := ⟨_, rfl⟩
  have kA := kept (show hget w5 (A) = some (.cells (pt a.x a.y a.z a.t true) 56 (0, 0)) by rw [← hw5]; clear hw5; go_simp)
  have kB := kept (show hget w5 (w4.heap.size) = some (.cells (pt q.x q.y q.z q.t true) 56) by rw [← hw5]; clear hw5; go_simp)
  have b5 : Hid (Below W.heap.size W w5) := by rw [← hw5]; repeat (first | exact Below.refl _ _ | exact below_new _ | exact b4.out | assumption | refine Below.drew ?_ | refine Below.drewN ?_ _ | refine below_alloc ?_ _ | refine below_blk' ?_ (by omega) _)
  rw [hw5]
  clear hw5
  try clear gA lA nA mA
  try clear jA
  have jA := kA.later
  obtain ⟨gA, lA, nA, mA⟩ := kA
  try clear gB lB nB mB
  try clear jB
  have jB := kB.later
  obtain ⟨gB, lB, nB, mB⟩ := kB
  clear b4
  rw [hB] at *
  clear hB
  clear D1 D2
  go_wp2_with fail
  try clear jA jB
  refine (F1.out _).mono ?_
  rintro e w6 ⟨rfl, hb6⟩
  have kA := Kept.on (kept (b := A) (o := .cells (pt a.x a.y a.z a.t true) 56 (0, 0)) (by go_simp)) hb6
  have kB := Kept.on (kept (b := B) (o := .cells (pt q.x q.y q.z q.t true) 56 (0, 0)) (by go_simp)) hb6
  have b6 : Hid (Below W.heap.size W w6) := below_to (by repeat (first | exact Below.refl _ _ | exact below_new _ | exact b5.out | assumption | refine Below.drew ?_ | refine Below.drewN ?_ _ | refine below_alloc ?_ _ | refine below_blk' ?_ (by omega) _)) hb6
  clear hb6
  try clear gA lA nA mA
  obtain ⟨gA, lA, nA, mA⟩ := kA
  try clear gB lB nB mB
  obtain ⟨gB, lB, nB, mB⟩ := kB
  clear b5
  skip
  cases F
  · go_wp2_with fail
    try clear jA jB
    refine (C1.out _).mono ?_
    rintro e w7 ⟨rfl, hb7⟩
    have kA := Kept.on (kept (b := A) (o := .cells (pt a.x a.y a.z a.t true) 56 (0, 0)) (by go_simp)) hb7
    have kB := Kept.on (kept (b := B) (o := .cells (pt q.x q.y q.z q.t true) 56 (0, 0)) (by go_simp)) hb7
    have b7 : Hid (Below W.heap.size W w7) := below_to (by repeat (first | exact Below.refl _ _ | exact below_new _ | exact b6.out | assumption | refine Below.drew ?_ | refine Below.drewN ?_ _ | refine below_alloc ?_ _ | refine below_blk' ?_ (by omega) _)) hb7
    clear hb7
    try clear gA lA nA mA
    obtain ⟨gA, lA, nA, mA⟩ := kA
    try clear gB lB nB mB
    obtain ⟨gB, lB, nB, mB⟩ := kB
    clear b6
    cases C
    · go_wp2_with fail
      go_ret
      exact ⟨rfl, b7.out⟩
    · go_wp2_with fail
      try clear jA jB
      refine (O1.out _).mono ?_
      rintro e w8 ⟨rfl, hb8⟩
      have kA := Kept.on (kept (b := A) (o := .cells (pt a.x a.y a.z a.t true) 56 (0, 0)) (by go_simp)) hb8
      have kB := Kept.on (kept (b := B) (o := .cells (pt q.x q.y q.z q.t true) 56 (0, 0)) (by go_simp)) hb8
      have b8 : Hid (Below W.heap.size W w8) := below_to (by repeat (first | exact Below.refl _ _ | exact below_new _ | exact b7.out | assumption | refine Below.drew ?_ | refine Below.drewN ?_ _ | refine below_alloc ?_ _ | refine below_blk' ?_ (by omega) _)) hb8
      clear hb8
      try clear gA lA nA mA
      obtain ⟨gA, lA, nA, mA⟩ := kA
      try clear gB lB nB mB
      obtain ⟨gB, lB, nB, mB⟩ := kB
      clear b7
      go_upto_region 9 with (fail)
      obtain ⟨N, hN⟩ : ∃ b, w8.heap.size = b := ⟨_, rfl⟩
      have wN : W.heap.size ≤ N := by rw [← hN]; exact b8.out.size
      have eAN : (A = N) = False := by rw [← hN]; exact nA
      have eNA : (N = A) = False := by rw [← hN]; exact mA
      have eBN : (B = N) = False := by rw [← hN]; exact nB
      have eNB : (N = B) = False := by rw [← hN]; exact mB
      obtain ⟨w9, hw9⟩ : ∃ w9, w8.alloc (.cells (quad n) 37) = w9 := ⟨_, rfl⟩
      have kA := kept (show hget w9 (A) = some (.cells (pt a.x a.y a.z a.t true) 56 (0, 0)) by rw [← hw9]; clear hw9; go_simp)
      have kB := kept (show hget w9 (B) = some (.cells (pt q.x q.y q.z q.t true) 56 (0, 0)) by rw [← hw9]; clear hw9; go_simp)
      have kN := kept (show hget w9 (w8.heap.size) = some (.cells (quad n) 37) by rw [← hw9]; clear hw9; go_simp)
      have b9 : Hid (Below W.heap.size W w9) := by rw [← hw9]; repeat (first | exact Below.refl _ _ | exact below_new _ | exact b8.out | assumption | refine Below.drew ?_ | refine Below.drewN ?_ _ | refine below_alloc ?_ _ | refine below_blk' ?_ (by omega) _)
      rw [hw9]
      clear hw9
      try clear gA lA nA mA
      try clear jA
      have jA := kA.later
      obtain ⟨gA, lA, nA, mA⟩ := kA
      try clear gB lB nB mB
      try clear jB
      have jB := kB.later
      obtain ⟨gB, lB, nB, mB⟩ := kB
      try clear gN lN nN mN
      try clear jN
      have jN := kN.later
      obtain ⟨gN, lN, nN, mN⟩ := kN
      clear b8
      rw [hN] at *
      clear hN
      have hT6 := HT.out.keep b9.out
      have jA := Kept.later (kept gA)
      have jB := Kept.later (kept gB)
      have jN := Kept.later (kept gN)
      clear F1 C1 O1
      refine wp_region_gho [5] (fun _ u w => ∃ b, u = .slice (some ⟨b, 0, none⟩) 3 3 ∧ w.heap[b]? = some (.cells #[.string R, .string pub, .string s] 9 (0, 0))) (by kernel_rfl) (by kernel_rfl) (by kernel_rfl) (fun _ u w w' ⟨b, h1, h2⟩ hb => ⟨b, h1, keepB hb h2⟩) ?_
      repeat (first | (refine wpGho_plain (by kernel_rfl) (by decide) (by rfl) (by rfl) (fun K hK => ?_); go_simp; refine hK _ ?_; clear hK K; try go_ints))
      refine wpGho_make (by kernel_rfl) (by decide) (by rfl) (by rfl) (by rfl) (fun K hK => ?_)
      go_simp
      refine ⟨fun x => ⟨below_new _, _, rfl, alloc_at _ _⟩, hK _ ?_⟩
      clear hK K
      refine wpGho_read (by decide) (by rfl) (fun K hK => ?_)
      refine ⟨.agg (quad k), fun g x hR => ?_, hK _ ?_⟩
      · obtain ⟨b8, hb8, hc8⟩ := hR 5 (by decide) (by kernel_rfl)
        rw [show ∀ a, over _ [5] g a = Act.put a (some 57) (g 5) from fun _ => rfl, hb8]
        have C1 := K1.out x.w' b8 (hT6.keep x.h) ⟨_, _, hc8⟩
        clear hR
        go_simp
        done
      clear hK K
      simp only [Act.put, List.setIfInBounds_toArray, List.set_cons_zero, List.set_cons_succ]
      repeat (first | (refine wpGho_plain (by kernel_rfl) (by decide) (by rfl) (by rfl) (fun K hK => ?_); go_simp; refine hK _ ?_; clear hK K; try go_ints) | (refine wpGho_plain (by kernel_rfl) (by decide) (by rfl) (by rfl) (fun K hK => ?_); go_simp; refine ⟨_, fun x => B1.out _, hK _ ?_⟩; clear hK K; try go_ints) | (refine wpGho_plain (by kernel_rfl) (by decide) (by rfl) (by rfl) (fun K hK => ?_); go_simp; refine ⟨_, fun x => A1.out _, hK _ ?_⟩; clear hK K; try go_ints) | (refine wpGho_plain (by kernel_rfl) (by decide) (by rfl) (by rfl) (fun K hK => ?_); go_simp; refine ⟨_, fun x => M1.out _, hK _ ?_⟩; clear hK K; try go_ints) | (refine wpGho_plain (by kernel_rfl) (by decide) (by rfl) (by rfl) (fun K hK => ?_); go_simp; refine ⟨_, fun x => S1.out _, hK _ ?_⟩; clear hK K; try go_ints))
      refine wpGho_nil ?_
      intro g wM hwM hR
      obtain ⟨⟨w99, hM⟩, e9⟩ := hwM
      change wM = w99 at e9
      subst e9
      obtain ⟨b8, hb8, _⟩ := hR 5 (by decide)
      rw [show ∀ a, over _ [5] g a = Act.put a (some 57) (g 5) from fun _ => rfl, hb8]
      simp only [Act.put, List.setIfInBounds_toArray, List.set_cons_zero, List.set_cons_succ]
      clear hR hb8
      go_wp2_with fail
      go_ret
      exact ⟨by cases V <;> rfl, below_to b9.out hM⟩
  · skip
    go_wp2_with fail
    go_ret
    exact ⟨rfl, b6.out⟩

set_option maxRecDepth 100000 in
theorem extract_end (sig : ByteArray) (h : sig.size = 64) : sig.extract 32 64 = sig.extract 32 sig.size := by rw [h]
open Classical in
set_option maxRecDepth 100000 in
/-- Which signatures the program verifies. -/
theorem sverify_any (pub s sig : ByteArray) (W : World) (hT : Tab W) (hp : pub.size ≤ 9223372036854775807) (hs : s.size ≤ 1099511627776) : Calls Tryz.prog 11 #[.string pub, .string s, .string sig] W fun r w' => r = .returned (.bool (vrB pub s sig)) ∧ Below W.heap.size W w' := by
  by_cases h : sig.size = 64
  · obtain ⟨x, y, z, t, b, c, e1, i1⟩ := decV_form pub
    obtain ⟨x', y', z', t', b', c', e2, i2⟩ := decV_form (sig.extract 0 32)
    by_cases hc : c = 0 ∧ c' = 0
    · have d1 := i1.1 hc.1
      have d2 := i2.1 hc.2
      have f1 : decV pub = .tuple #[pv (dP pub), .int .i64 0] := by unfold decV; rw [if_pos d1]
      have f2 : decV (sig.extract 0 32) = .tuple #[pv (dP (sig.extract 0 32)), .int .i64 0] := by unfold decV; rw [if_pos d2]
      have hp32 : pub.size = 32 := by
        have d3 := d1
        unfold dOk at d3
        rw [Bool.and_eq_true] at d3
        exact of_decide_eq_true d3.1
      have oa := dP_ok d1
      have oq := dP_ok d2
      have lk : vrNum pub s sig < ordL := redN_lt _
      have oM := P4.both_ok base_ok oa (m := vrNum pub s sig) (n := 0) (Nat.lt_trans lk (by decide)) (by decide)
      rw [Pt.mul_zero, Pt.add_zero] at oM
      have ov := P4.add_ok oq oM
      have ot := bm_ok (n := bytesNat (sig.extract 32 64).data.toList % ordL) (Nat.mod_lt _ (by decide))
      have iV := P4.same_iff ov ot
      have iF := few_iff oa
      have hcat : redN (cat [sig.extract 0 32, pub, s]) = vrNum pub s sig := by unfold vrNum; rw [cat3]
      obtain ⟨F, hF⟩ : ∃ F, (dP pub).twice.twice.twice.same P4.zero = F := ⟨_, rfl⟩
      obtain ⟨C, hC⟩ : ∃ C, ocanB (sig.extract 32 64) = C := ⟨_, rfl⟩
      obtain ⟨M, hM⟩ : ∃ M, P4.both (dP bsB) (dP pub) (vrNum pub s sig) 0 = M := ⟨_, rfl⟩
      obtain ⟨v, hv⟩ : ∃ v, (dP (sig.extract 0 32)).add M = v := ⟨_, rfl⟩
      obtain ⟨tn, ht⟩ : ∃ tn, bm (bytesNat (sig.extract 32 64).data.toList % ordL) = tn := ⟨_, rfl⟩
      obtain ⟨V, hV⟩ : ∃ V, v.same tn = V := ⟨_, rfl⟩
      rw [hM, hv, ht, hV] at iV
      rw [hF] at iF
      have hcore := sverify_core pub s sig _ _ (dP pub) (dP (sig.extract 0 32)) M v tn (vrNum pub s sig) _ F C V W hT h rfl rfl hp32 hs f1 f2 oa.bd oq.bd hF hC hcat rfl hM hv ht hV
      have hfin : (!F && C && V) = vrB pub s sig := by
        rw [Bool.eq_iff_iff, Bool.and_eq_true, Bool.and_eq_true, Bool.not_eq_true', ← Bool.not_eq_true, iF, iV, ← hC]
        unfold vrB
        rw [decide_eq_true_eq]
        unfold vrOk
        constructor
        · rintro ⟨⟨g1, g2⟩, g3⟩
          exact ⟨h, g2, d1, d2, g1, g3.symm⟩
        · rintro ⟨_, g2, _, _, g1, g3⟩
          exact ⟨⟨g1, g2⟩, g3.symm⟩
      rw [hfin] at hcore
      exact hcore
    · rw [vrB_false (fun hv => by
        obtain ⟨_, _, d1, d2, _⟩ := hv
        exact hc ⟨i1.2 d1, i2.2 d2⟩)]
      exact sverify_bad pub s sig _ _ x y z t x' y' z' t' b b' c c' W h rfl rfl hp e1 e2 (by omega)
  · rw [vrB_false (vr_short h)]
    exact sverify_short pub s sig W h

end Go.Proofs.YtceljjnohjnepaaGreatDoor
