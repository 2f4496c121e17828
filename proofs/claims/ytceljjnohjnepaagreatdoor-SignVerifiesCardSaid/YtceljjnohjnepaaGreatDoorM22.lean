/- Signatures, the document's: what a secret holds; its public key; its signature of a text. Signatures, the document's: which are verified. Signatures: a known run: the key of 32 noughts, its signature of one text, another text. Signatures, the laws: a known run. -/
import Derived.Test.YtceljjnohjnepaaGreatDoorM19
import Derived.Test.YtceljjnohjnepaaGreatDoorM21
import Derived.Test.YtceljjnohjnepaaGreatDoorM18
namespace Go.Proofs.YtceljjnohjnepaaGreatDoor
open Go Go.RowKit DG EG
attribute [local go_sem ↓] exl_RPt exs_RPt exl_ONum exs_ONum
                       attribute [local go_sem] ldr_RPt str_RPt rpt_zero ldr_ONum str_ONum

/-- A number of the document's. -/
def on32 (n : Nat) : Array Value := ints .u8 (digs 256 n 32)
set_option maxRecDepth 100000 in
@[go_sem] theorem on32_size (n : Nat) : (on32 n).size = 32 := osz n
set_option maxRecDepth 100000 in
@[go_sem] theorem on32_one (n : Nat) : ones (on32 n) = true := rows_one _ _
set_option maxRecDepth 100000 in
theorem on_zero : (#[.int .u8 0, .int .u8 0, .int .u8 0, .int .u8 0, .int .u8 0, .int .u8 0, .int .u8 0, .int .u8 0, .int .u8 0, .int .u8 0, .int .u8 0, .int .u8 0, .int .u8 0, .int .u8 0, .int .u8 0, .int .u8 0, .int .u8 0, .int .u8 0, .int .u8 0, .int .u8 0, .int .u8 0, .int .u8 0, .int .u8 0, .int .u8 0, .int .u8 0, .int .u8 0, .int .u8 0, .int .u8 0, .int .u8 0, .int .u8 0, .int .u8 0, .int .u8 0] : Array Value) = on32 0 := by kernel_rfl
attribute [local go_sem] on_zero
set_option maxRecDepth 100000 in
set_option maxHeartbeats 1000000 in
theorem rnum_core (sec H L C P : ByteArray) (a : Nat) (W : World) (hs : sec.size ≤ 1099511627776) (hH : sgH sec = H) (hL : H.extract 0 32 = L) (hP : H.extract 32 64 = P) (hC : (⟨(clampL L.data.toList).toArray⟩ : ByteArray) = C) (ha : bytesNat C.data.toList % ordL = a) :
    Calls Tryz.prog 15 #[.string sec] W fun r w' => r = .returned (.tuple #[.agg (on32 a), .string P]) ∧ Below W.heap.size W w' := by
  have zH : H.size = 64 := hH ▸ sgH_size sec
  have zL : L.size = 32 := by rw [← hL, ByteArray.size_extract, zH]; rfl
  have zC : C.size = 32 := by
    rw [← hC]
    show (clampL L.data.toList).toArray.size = 32
    unfold clampL
    simp [zL]
  have H1 : Hid (∀ w, Calls Tryz.prog 25 #[.string sec] w fun e w' => e = .returned (.string H) ∧ Below w.heap.size w w') := hid (fun w => by rw [← hH]; exact ROf_any sec w hs)
  have C1 := hid (fun w => hC ▸ ref_Clamp L w zL)
  have O1 : Hid (∀ w, Calls Tryz.prog 24 #[.string C] w fun e w' => e = .returned (.agg (on32 a)) ∧ Below w.heap.size w w') := hid (fun w => ha ▸ oref_Of C w (by omega))
  clear hH hC ha
  go_enter Tryz.func15, Tryz.ntmps15
  go_upto_region 1 with (fail)
  obtain ⟨w1, hw1⟩ : ∃ w1, W.alloc (.cells (on32 0) 44) = w1 := ⟨_, rfl⟩
  have kR := kept (show hget w1 (W.heap.size) = some (.cells (on32 0) 44 (0, 0)) by rw [← hw1]; clear hw1; go_simp)
  have b1 : Hid (Below W.heap.size W w1) := by rw [← hw1]; repeat (first | exact Below.refl _ _ | exact below_new _ | assumption | refine Below.drew ?_ | refine Below.drewN ?_ _ | refine below_alloc ?_ _ | refine below_blk' ?_ (by omega) _)
  rw [hw1]
  clear hw1
  try clear gR lR nR mR
  try clear jR
  have jR := kR.later
  obtain ⟨gR, lR, nR, mR⟩ := kR
  go_wp2_with fail
  try clear jR
  refine (H1.out _).mono ?_
  rintro e w2 ⟨rfl, hb2⟩
  have kR := Kept.on (kept (b := W.heap.size) (o := .cells (on32 0) 44 (0, 0)) (by go_simp)) hb2
  have b2 : Hid (Below W.heap.size W w2) := below_to (by repeat (first | exact Below.refl _ _ | exact below_new _ | exact b1.out | assumption | refine Below.drew ?_ | refine Below.drewN ?_ _ | refine below_alloc ?_ _ | refine below_blk' ?_ (by omega) _)) hb2
  clear hb2
  try clear gR lR nR mR
  obtain ⟨gR, lR, nR, mR⟩ := kR
  clear b1
  go_upto_region 2 with (fail)
  have jR := Kept.later (kept gR)
  refine wp_region_old (W.heap.size) 6 (on32 0) (on32 a) (44) (by kernel_rfl) (by kernel_rfl) (by first | assumption | go_simp) (by kernel_rfl) (by decide) (fun hsep => ?_)
  have HSEP := hid hsep
  clear hsep
  repeat (first | (refine wpO_plain HSEP.out (by kernel_rfl) (by rfl) (fun K hK => ?_); go_simp; refine hK _ ?_; clear hK K; try go_ints) | (refine wpO_plain HSEP.out (by kernel_rfl) (by rfl) (fun K hK => ?_); go_simp; (with_reducible refine ⟨_, fun x => C1.out _, hK _ ?_⟩); clear hK K; try go_ints) | (refine wpO_plain HSEP.out (by kernel_rfl) (by rfl) (fun K hK => ?_); go_simp; (with_reducible refine ⟨_, fun x => O1.out _, hK _ ?_⟩); clear hK K; try go_ints) | (refine wpO_store HSEP.out (by rfl) (by rfl) (by kernel_rfl) (fun K hK => ⟨fun x cs hcs hx => (by clear hK HSEP; rcases hcs with hcs | hcs <;> (rw [hcs] at hx; clear hcs; go_simp; done)), hK _ ?_⟩); clear hK K; try go_ints))
  refine wpGho_nil ?_
  intro wO oO gO
  clear HSEP
  have b3 := hid (b2.out.trans (oO.below (fun e he => he ▸ Nat.le_refl _) b2.out.size))
  clear oO b2 gR lR nR mR jR
  go_wp2_with fail
  refine bodyPost_ret (v := .tuple #[.agg (on32 a), .string P]) (results_cell_tmp Tryz.results15 _ _ (W.heap.size) 44 (on32 a) (0, 0) _ (.string P) (by rfl) (by rfl) (by rw [← hget_eq]; go_simp) Tryz.underlying44 rfl (by rw [info_ONum]; go_simp)) rfl ?_
  exact ⟨rfl, b3.out⟩
set_option maxRecDepth 100000 in
theorem rnum_any (sec : ByteArray) (W : World) (hs : sec.size ≤ 1099511627776) : Calls Tryz.prog 15 #[.string sec] W fun r w' => r = .returned (.tuple #[.agg (on32 (sgA sec)), .string (sgPre sec)]) ∧ Below W.heap.size W w' := by
  have e3 : bytesNat (⟨(clampL (sgL sec).data.toList).toArray⟩ : ByteArray).data.toList % ordL = sgA sec := by
    rw [ba_list]
    unfold sgA ck
    with_reducible rfl
  have e1 : (sgH sec).extract 0 32 = sgL sec := by unfold sgL; with_reducible rfl
  have e2 : (sgH sec).extract 32 64 = sgPre sec := by unfold sgPre; with_reducible rfl
  exact rnum_core sec (sgH sec) (sgL sec) ⟨(clampL (sgL sec).data.toList).toArray⟩ (sgPre sec) (sgA sec) W hs rfl e1 e2 rfl e3

/-- A multiple of the base point, the document's. -/
def rbm (n : Nat) : R3 := (rP bsB).times n
set_option maxRecDepth 100000 in
theorem rbm_ok {n : Nat} (h : n < ordL) : (rbm n).ok (Pt.mul n bP) := by
  have h1 : (rP bsB).ok bP := bsB_pt ▸ rP_ok bsB_ok
  exact R3.times_ok h1 (Nat.lt_trans h (by decide))
set_option maxRecDepth 100000 in
theorem rbm_v (n : Nat) (w : World) (h : n < ordL) : Calls Tryz.prog 17 #[rv (rP bsB), .agg (on32 n)] w fun r w' => r = .returned (rv (rbm n)) ∧ Below w.heap.size w w' := rtimes_v (rP bsB) n w rbase_bd (Nat.lt_trans h (by decide))
set_option maxRecDepth 100000 in
theorem rbm_bytes (n : Nat) (w : World) (h : n < ordL) : Calls Tryz.prog 18 #[rv (rbm n)] w fun r w' => r = .returned (.string (ptB (Pt.mul n bP))) ∧ Below w.heap.size w w' := by
  have h2 := rbytes_v (rbm n) w (rbm_ok h).bd
  rw [show (rbm n).bytes = ptB (Pt.mul n bP) from R3.ok_bytes (rbm_ok h)] at h2
  exact h2
set_option maxRecDepth 100000 in
set_option maxHeartbeats 1000000 in
theorem rpub_any (sec : ByteArray) (W : World) : Calls Tryz.prog 8 #[.string sec] W fun r w' => r = .returned (.tuple #[.string (spS sec), .int .i64 (spE sec)]) ∧ Below W.heap.size W w' := by
  unfold spS spE
  by_cases h : sec.size = 32
  · rw [if_pos h, if_pos h]
    have hn : ((sec.size : Int) != 32) = false := by rw [bne_eq_false_iff_eq]; omega
    have N1 := fun w => rnum_any sec w (by omega)
    have la := sgA_lt sec
    have B1 := hid (fun w => rbase_any w)
    have M1 := fun w => rbm_v (sgA sec) w la
    have Y1 := fun w => rbm_bytes (sgA sec) w la
    rw [show ptB (Pt.mul (sgA sec) bP) = pubB sec from rfl] at Y1
    generalize rbm (sgA sec) = m at *
    generalize sgA sec = a at *
    generalize sgPre sec = p at *
    generalize pubB sec = S at *
    generalize rP bsB = bb at *
    have N1 := hid N1
    have M1 := hid M1
    have Y1 := hid Y1
    clear h la
    go_enter Tryz.func8, Tryz.ntmps8
    go_wp2_with fail
    refine (N1.out _).mono ?_
    rintro e w1 ⟨rfl, hb1⟩
    have b1 := hid hb1
    clear hb1
    go_upto_region 4 with (fail)
    skip
    obtain ⟨A, hA⟩ : ∃ b, w1.heap.size = b := ⟨_, rfl⟩
    have wA : W.heap.size ≤ A := by rw [← hA]; exact b1.out.size
    obtain ⟨w2, hw2⟩ : ∃ w2, w1.alloc (.cells (on32 a) 44) = w2 := ⟨_, rfl⟩
    have kA := kept (show hget w2 (w1.heap.size) = some (.cells (on32 a) 44) by rw [← hw2]; clear hw2; go_simp)
    have b2 : Hid (Below W.heap.size W w2) := by rw [← hw2]; repeat (first | exact Below.refl _ _ | exact below_new _ | exact b1.out | assumption | refine Below.drew ?_ | refine Below.drewN ?_ _ | refine below_alloc ?_ _ | refine below_blk' ?_ (by omega) _)
    rw [hw2]
    clear hw2
    try clear gA lA nA mA
    try clear jA
    have jA := kA.later
    obtain ⟨gA, lA, nA, mA⟩ := kA
    clear b1
    rw [hA] at *
    clear hA
    have jA := Kept.later (kept gA)
    refine wp_region_later (by kernel_rfl) (by kernel_rfl) ?_
    repeat ((go_big_quiet_step ((first | (go_at_call 16; with_reducible exact calls_later (B1.out _)) | (go_at_call 17; with_reducible exact calls_later (M1.out _)) | (go_at_call 18; with_reducible exact calls_later (Y1.out _))))))
    refine wpQuiet_nil ?_
    intro wL hwL
    obtain ⟨⟨w8, hL⟩, e8⟩ := hwL
    change wL = w8 at e8
    subst e8
    go_wp2_with fail
    go_ret2
    exact ⟨rfl, below_to b2.out hL⟩
  · rw [if_neg h, if_neg h]
    have hn : ((sec.size : Int) != 32) = true := by rw [bne_iff_ne]; omega
    clear h
    go_enter Tryz.func8, Tryz.ntmps8
    go_wp2_with fail
    go_ret2
    exact ⟨rfl, Below.refl _ _⟩

set_option maxRecDepth 100000 in
theorem rsig_no (sec s : ByteArray) (W : World) (h : sec.size ≠ 32) : Calls Tryz.prog 10 #[.string sec, .string s] W fun r w' => r = .returned (.tuple #[.string ⟨#[]⟩, .int .i64 2]) ∧ Below W.heap.size W w' := by
  have P1 := fun w => rpub_any sec w
  unfold spS spE at P1
  rw [if_neg h, if_neg h] at P1
  have P1 := hid P1
  clear h
  go_enter Tryz.func10, Tryz.ntmps10
  go_wp2_with fail
  refine (P1.out _).mono ?_
  rintro e w1 ⟨rfl, hb1⟩
  simp only []
  go_wp2_with fail
  go_ret2
  exact ⟨rfl, hb1⟩
set_option maxRecDepth 100000 in
set_option maxHeartbeats 2000000 in
theorem rsig_core (sec s P Q U N H1 H2 : ByteArray) (a r k n : Nat) (W : World) (h : sec.size = 32) (hs : s.size ≤ 1099511627000) (ha : sgA sec = a) (hP : sgPre sec = P) (hr : sgR sec s = r) (hQ : sgQ sec s = Q) (hU : pubB sec = U) (hk : sgK sec s = k) (hn : sgS sec s = n) (hN : n32B n = N)
    (e1 : (⟨(SH.sha (P ++ s).data.toList).toArray⟩ : ByteArray) = H1) (e2 : (⟨(SH.sha (Q ++ U ++ s).data.toList).toArray⟩ : ByteArray) = H2) :
    Calls Tryz.prog 10 #[.string sec, .string s] W fun r w' => r = .returned (.tuple #[.string (Q ++ N), .int .i64 0]) ∧ Below W.heap.size W w' := by
  have la : a < ordL := ha ▸ sgA_lt sec
  have lr : r < ordL := hr ▸ redN_lt _
  have lk : k < ordL := hk ▸ redN_lt _
  have zQ : Q.size = 32 := hQ ▸ sgQ_size sec s
  have zU : U.size = 32 := hU ▸ pubB_size sec
  have zP : P.size = 32 := hP ▸ sgPre_size sec
  have zN : N.size = 32 := hN ▸ n32B_size n
  have zQU : (Q ++ U).size = 64 := by rw [ByteArray.size_append]; omega
  have zPs : (P ++ s).size = 32 + s.size := by rw [ByteArray.size_append]; omega
  have zQs : (Q ++ U ++ s).size = 64 + s.size := by rw [ByteArray.size_append]; omega
  have zH1 : H1.size = 64 := by
    rw [← e1]
    show (SH.sha _).toArray.size = 64
    simp [SH.sha_length]
  have zH2 : H2.size = 64 := by
    rw [← e2]
    show (SH.sha _).toArray.size = 64
    simp [SH.sha_length]
  have P1 := fun w => rpub_any sec w
  unfold spS spE at P1
  rw [if_pos h, if_pos h, hU] at P1
  have P1 := hid P1
  have N1 := fun w => rnum_any sec w (by omega)
  rw [ha, hP] at N1
  have N1 := hid N1
  have D1 : Hid (∀ w, Calls Tryz.prog 25 #[.string (P ++ s)] w fun e w' => e = .returned (.string H1) ∧ Below w.heap.size w w') := hid (fun w => by rw [← e1]; exact ROf_any _ w (by omega))
  have D2 : Hid (∀ w, Calls Tryz.prog 25 #[.string (Q ++ U ++ s)] w fun e w' => e = .returned (.string H2) ∧ Below w.heap.size w w') := hid (fun w => by rw [← e2]; exact ROf_any _ w (by omega))
  have r1 : bytesNat H1.data.toList % ordL = r := by
    rw [← e1, ba_list, ByteArray.data_append, Array.toList_append, ← hr, ← hP]
    unfold sgR redN
    with_reducible rfl
  have r2 : bytesNat H2.data.toList % ordL = k := by
    rw [← e2, ba_list, ByteArray.data_append, ByteArray.data_append, Array.toList_append, Array.toList_append, List.append_assoc, ← hk, ← hQ, ← hU]
    unfold sgK redN
    with_reducible rfl
  have O1 : Hid (∀ w, Calls Tryz.prog 24 #[.string H1] w fun e w' => e = .returned (.agg (on32 r)) ∧ Below w.heap.size w w') := hid (fun w => r1 ▸ oref_Of H1 w (by omega))
  have O2 : Hid (∀ w, Calls Tryz.prog 24 #[.string H2] w fun e w' => e = .returned (.agg (on32 k)) ∧ Below w.heap.size w w') := hid (fun w => r2 ▸ oref_Of H2 w (by omega))
  have B1 := hid (fun w => rbase_any w)
  have M1 := fun w => rbm_v r w lr
  have Y1 := fun w => rbm_bytes r w lr
  rw [show ptB (Pt.mul r bP) = Q by rw [← hQ, ← hr]; rfl] at Y1
  generalize rbm r = m at *
  generalize rP bsB = bb at *
  have M1 := hid M1
  have Y1 := hid Y1
  have A1 : ∀ w, Calls Tryz.prog 26 #[.agg (on32 k), .agg (on32 a), .agg (on32 r)] w fun e w' => e = .returned (.agg (on32 n)) ∧ Below w.heap.size w w' := fun w => by
    have h := ref_MulAdd k a r w lk la lr
    rw [show (k * a + r) % ordL = n by rw [← hn, ← hk, ← ha, ← hr]; rfl] at h
    exact h
  have A1 := hid A1
  have W1 : Hid (∀ w, Calls Tryz.prog 27 #[.agg (on32 n)] w fun e w' => e = .returned (.string N) ∧ Below w.heap.size w w') := hid (fun w => by
    have h := oref_Bytes n w
    rw [show (⟨(natBytes n 32).toArray⟩ : ByteArray) = N from hN] at h
    exact h)
  clear h ha hP hr hQ hU hk hn hN la lr lk e1 e2 r1 r2
  go_enter Tryz.func10, Tryz.ntmps10
  go_wp2_with fail
  refine (P1.out _).mono ?_
  rintro e w1 ⟨rfl, hb1⟩
  have b1 := hid hb1
  clear hb1
  simp only []
  skip
  go_wp2_with fail
  skip
  refine (N1.out _).mono ?_
  rintro e w2 ⟨rfl, hb2⟩
  have b2 : Hid (Below W.heap.size W w2) := below_to (by repeat (first | exact Below.refl _ _ | exact below_new _ | exact b1.out | assumption | refine Below.drew ?_ | refine Below.drewN ?_ _ | refine below_alloc ?_ _ | refine below_blk' ?_ (by omega) _)) hb2
  clear hb2
  clear b1
  go_upto_region 5 with (fail)
  obtain ⟨A, hA⟩ : ∃ b, w2.heap.size = b := ⟨_, rfl⟩
  have wA : W.heap.size ≤ A := by rw [← hA]; exact b2.out.size
  obtain ⟨w3, hw3⟩ : ∃ w3, w2.alloc (.cells (on32 a) 44) = w3 := ⟨_, rfl⟩
  have kA := kept (show hget w3 (w2.heap.size) = some (.cells (on32 a) 44) by rw [← hw3]; clear hw3; go_simp)
  have b3 : Hid (Below W.heap.size W w3) := by rw [← hw3]; repeat (first | exact Below.refl _ _ | exact below_new _ | exact b2.out | assumption | refine Below.drew ?_ | refine Below.drewN ?_ _ | refine below_alloc ?_ _ | refine below_blk' ?_ (by omega) _)
  rw [hw3]
  clear hw3
  try clear gA lA nA mA
  try clear jA
  have jA := kA.later
  obtain ⟨gA, lA, nA, mA⟩ := kA
  clear b2
  rw [hA] at *
  clear hA
  go_wp2_with fail
  try clear jA
  refine (D1.out _).mono ?_
  rintro e w4 ⟨rfl, hb4⟩
  have kA := Kept.on (kept (b := A) (o := .cells (on32 a) 44 (0, 0)) (by go_simp)) hb4
  have b4 : Hid (Below W.heap.size W w4) := below_to (by repeat (first | exact Below.refl _ _ | exact below_new _ | exact b3.out | assumption | refine Below.drew ?_ | refine Below.drewN ?_ _ | refine below_alloc ?_ _ | refine below_blk' ?_ (by omega) _)) hb4
  clear hb4
  try clear gA lA nA mA
  obtain ⟨gA, lA, nA, mA⟩ := kA
  clear b3
  go_wp2_with fail
  try clear jA
  refine (O1.out _).mono ?_
  rintro e w5 ⟨rfl, hb5⟩
  have kA := Kept.on (kept (b := A) (o := .cells (on32 a) 44 (0, 0)) (by go_simp)) hb5
  have b5 : Hid (Below W.heap.size W w5) := below_to (by repeat (first | exact Below.refl _ _ | exact below_new _ | exact b4.out | assumption | refine Below.drew ?_ | refine Below.drewN ?_ _ | refine below_alloc ?_ _ | refine below_blk' ?_ (by omega) _)) hb5
  clear hb5
  try clear gA lA nA mA
  obtain ⟨gA, lA, nA, mA⟩ := kA
  clear b4
  go_upto_region 6 with (fail)
  obtain ⟨R, hR⟩ : ∃ b, w5.heap.size = b := ⟨_, rfl⟩
  have wR : W.heap.size ≤ R := by rw [← hR]; exact b5.out.size
  have eAR : (A = R) = False := by rw [← hR]; exact nA
  have eRA : (R = A) = False := by rw [← hR]; exact mA
  obtain ⟨w6, hw6⟩ : ∃ w6, w5.alloc (.cells (on32 r) 44) = w6 := ⟨_, rfl⟩
  have kA := kept (show hget w6 (A) = some (.cells (on32 a) 44 (0, 0)) by rw [← hw6]; clear hw6; go_simp)
  have kR := kept (show hget w6 (w5.heap.size) = some (.cells (on32 r) 44) by rw [← hw6]; clear hw6; go_simp)
  have b6 : Hid (Below W.heap.size W w6) := by rw [← hw6]; repeat (first | exact Below.refl _ _ | exact below_new _ | exact b5.out | assumption | refine Below.drew ?_ | refine Below.drewN ?_ _ | refine below_alloc ?_ _ | refine below_blk' ?_ (by omega) _)
  rw [hw6]
  clear hw6
  try clear gA lA nA mA
  try clear jA
  have jA := kA.later
  obtain ⟨gA, lA, nA, mA⟩ := kA
  try clear gR lR nR mR
  try clear jR
  have jR := kR.later
  obtain ⟨gR, lR, nR, mR⟩ := kR
  clear b5
  rw [hR] at *
  clear hR
  have jA := Kept.later (kept gA)
  have jR := Kept.later (kept gR)
  refine wp_region_later (by kernel_rfl) (by kernel_rfl) ?_
  repeat ((go_big_quiet_step ((first | (go_at_call 16; with_reducible exact calls_later (B1.out _)) | (go_at_call 17; with_reducible exact calls_later (M1.out _)) | (go_at_call 18; with_reducible exact calls_later (Y1.out _))))))
  refine wpQuiet_nil ?_
  intro wL hwL
  obtain ⟨⟨w8, hL⟩, e8⟩ := hwL
  change wL = w8 at e8
  subst e8
  have kA := keepB hL gA
  have kR := keepB hL gR
  have b7 := hid (below_to b6.out hL)
  clear hL gA lA nA mA gR lR nR mR jA jR b6
  generalize wL = w7 at *
  obtain ⟨gA, lA, nA, mA⟩ := kept (show hget w7 (A) = some (.cells (on32 a) 44 (0, 0)) by first | assumption | go_simp)
  obtain ⟨gR, lR, nR, mR⟩ := kept (show hget w7 (R) = some (.cells (on32 r) 44 (0, 0)) by first | assumption | go_simp)
  clear kA kR
  go_wp2_with fail
  try clear jA jR
  refine (D2.out _).mono ?_
  rintro e w8 ⟨rfl, hb8⟩
  have kA := Kept.on (kept (b := A) (o := .cells (on32 a) 44 (0, 0)) (by go_simp)) hb8
  have kR := Kept.on (kept (b := R) (o := .cells (on32 r) 44 (0, 0)) (by go_simp)) hb8
  have b8 : Hid (Below W.heap.size W w8) := below_to (by repeat (first | exact Below.refl _ _ | exact below_new _ | exact b7.out | assumption | refine Below.drew ?_ | refine Below.drewN ?_ _ | refine below_alloc ?_ _ | refine below_blk' ?_ (by omega) _)) hb8
  clear hb8
  try clear gA lA nA mA
  obtain ⟨gA, lA, nA, mA⟩ := kA
  try clear gR lR nR mR
  obtain ⟨gR, lR, nR, mR⟩ := kR
  clear b7
  go_wp2_with fail
  try clear jA jR
  refine (O2.out _).mono ?_
  rintro e w9 ⟨rfl, hb9⟩
  have kA := Kept.on (kept (b := A) (o := .cells (on32 a) 44 (0, 0)) (by go_simp)) hb9
  have kR := Kept.on (kept (b := R) (o := .cells (on32 r) 44 (0, 0)) (by go_simp)) hb9
  have b9 : Hid (Below W.heap.size W w9) := below_to (by repeat (first | exact Below.refl _ _ | exact below_new _ | exact b8.out | assumption | refine Below.drew ?_ | refine Below.drewN ?_ _ | refine below_alloc ?_ _ | refine below_blk' ?_ (by omega) _)) hb9
  clear hb9
  try clear gA lA nA mA
  obtain ⟨gA, lA, nA, mA⟩ := kA
  try clear gR lR nR mR
  obtain ⟨gR, lR, nR, mR⟩ := kR
  clear b8
  go_upto_region 8 with (fail)
  obtain ⟨K, hK⟩ : ∃ b, w9.heap.size = b := ⟨_, rfl⟩
  have wK : W.heap.size ≤ K := by rw [← hK]; exact b9.out.size
  have eAK : (A = K) = False := by rw [← hK]; exact nA
  have eKA : (K = A) = False := by rw [← hK]; exact mA
  have eRK : (R = K) = False := by rw [← hK]; exact nR
  have eKR : (K = R) = False := by rw [← hK]; exact mR
  obtain ⟨w10, hw10⟩ : ∃ w10, w9.alloc (.cells (on32 k) 44) = w10 := ⟨_, rfl⟩
  have kA := kept (show hget w10 (A) = some (.cells (on32 a) 44 (0, 0)) by rw [← hw10]; clear hw10; go_simp)
  have kR := kept (show hget w10 (R) = some (.cells (on32 r) 44 (0, 0)) by rw [← hw10]; clear hw10; go_simp)
  have kK := kept (show hget w10 (w9.heap.size) = some (.cells (on32 k) 44) by rw [← hw10]; clear hw10; go_simp)
  have b10 : Hid (Below W.heap.size W w10) := by rw [← hw10]; repeat (first | exact Below.refl _ _ | exact below_new _ | exact b9.out | assumption | refine Below.drew ?_ | refine Below.drewN ?_ _ | refine below_alloc ?_ _ | refine below_blk' ?_ (by omega) _)
  rw [hw10]
  clear hw10
  try clear gA lA nA mA
  try clear jA
  have jA := kA.later
  obtain ⟨gA, lA, nA, mA⟩ := kA
  try clear gR lR nR mR
  try clear jR
  have jR := kR.later
  obtain ⟨gR, lR, nR, mR⟩ := kR
  try clear gK lK nK mK
  try clear jK
  have jK := kK.later
  obtain ⟨gK, lK, nK, mK⟩ := kK
  clear b9
  rw [hK] at *
  clear hK
  go_wp2_with fail
  try clear jA jR jK
  refine (A1.out _).mono ?_
  rintro e w11 ⟨rfl, hb11⟩
  have kA := Kept.on (kept (b := A) (o := .cells (on32 a) 44 (0, 0)) (by go_simp)) hb11
  have kR := Kept.on (kept (b := R) (o := .cells (on32 r) 44 (0, 0)) (by go_simp)) hb11
  have kK := Kept.on (kept (b := K) (o := .cells (on32 k) 44 (0, 0)) (by go_simp)) hb11
  have b11 : Hid (Below W.heap.size W w11) := below_to (by repeat (first | exact Below.refl _ _ | exact below_new _ | exact b10.out | assumption | refine Below.drew ?_ | refine Below.drewN ?_ _ | refine below_alloc ?_ _ | refine below_blk' ?_ (by omega) _)) hb11
  clear hb11
  try clear gA lA nA mA
  obtain ⟨gA, lA, nA, mA⟩ := kA
  try clear gR lR nR mR
  obtain ⟨gR, lR, nR, mR⟩ := kR
  try clear gK lK nK mK
  obtain ⟨gK, lK, nK, mK⟩ := kK
  clear b10
  go_wp2_with fail
  try clear jA jR jK
  refine (W1.out _).mono ?_
  rintro e w12 ⟨rfl, hb12⟩
  have kA := Kept.on (kept (b := A) (o := .cells (on32 a) 44 (0, 0)) (by go_simp)) hb12
  have kR := Kept.on (kept (b := R) (o := .cells (on32 r) 44 (0, 0)) (by go_simp)) hb12
  have kK := Kept.on (kept (b := K) (o := .cells (on32 k) 44 (0, 0)) (by go_simp)) hb12
  have b12 : Hid (Below W.heap.size W w12) := below_to (by repeat (first | exact Below.refl _ _ | exact below_new _ | exact b11.out | assumption | refine Below.drew ?_ | refine Below.drewN ?_ _ | refine below_alloc ?_ _ | refine below_blk' ?_ (by omega) _)) hb12
  clear hb12
  try clear gA lA nA mA
  obtain ⟨gA, lA, nA, mA⟩ := kA
  try clear gR lR nR mR
  obtain ⟨gR, lR, nR, mR⟩ := kR
  try clear gK lK nK mK
  obtain ⟨gK, lK, nK, mK⟩ := kK
  clear b11
  go_wp2_with fail
  go_ret2
  exact ⟨rfl, b12.out⟩
set_option maxRecDepth 100000 in
theorem rsig_any (sec s : ByteArray) (W : World) (hs : s.size ≤ 1099511627000) : Calls Tryz.prog 10 #[.string sec, .string s] W fun r w' => r = .returned (.tuple #[.string (siS sec s), .int .i64 (spE sec)]) ∧ Below W.heap.size W w' := by
  unfold siS spE
  by_cases h : sec.size = 32
  · rw [if_pos h, if_pos h]
    unfold sigB
    exact rsig_core sec s (sgPre sec) (sgQ sec s) (pubB sec) (n32B (sgS sec s)) _ _ (sgA sec) (sgR sec s) (sgK sec s) (sgS sec s) W h hs rfl rfl rfl rfl rfl rfl rfl rfl rfl rfl
  · rw [if_neg h, if_neg h]
    exact rsig_no sec s W h

end Go.Proofs.YtceljjnohjnepaaGreatDoor

namespace Go.Proofs.YtceljjnohjnepaaGreatDoor
open Go Go.RowKit DG EG
attribute [local go_sem ↓] exl_RPt exs_RPt exl_ONum exs_ONum
                       attribute [local go_sem] ldr_RPt str_RPt rpt_zero ldr_ONum str_ONum on_zero

set_option maxRecDepth 100000 in
theorem rdecV_form (s : ByteArray) : ∃ (u : R3) (c : Int), rdecV s = .tuple #[rv u, .int .i64 c] ∧ (c = 0 ↔ dOk s = true) := by
  unfold rdecV
  by_cases h : dOk s = true
  · rw [if_pos h]
    exact ⟨_, _, rfl, ⟨fun _ => h, fun _ => rfl⟩⟩
  · rw [if_neg h]
    refine ⟨⟨0, 0, 0⟩, _, rfl, ⟨fun h0 => ?_, fun h1 => absurd h1 h⟩⟩
    split at h0 <;> exact absurd h0 (by decide)
set_option maxRecDepth 100000 in
theorem rver_short (pub s sig : ByteArray) (W : World) (h : sig.size ≠ 64) : Calls Tryz.prog 12 #[.string pub, .string s, .string sig] W fun r w' => r = .returned (.bool false) ∧ Below W.heap.size W w' := by
  have hn : ((sig.size : Int) != 64) = true := by rw [bne_iff_ne]; omega
  clear h
  go_enter Tryz.func12, Tryz.ntmps12
  go_wp2_with fail
  go_ret
  exact ⟨rfl, Below.refl _ _⟩
set_option maxRecDepth 100000 in
theorem rver_nocan (pub s sig S : ByteArray) (W : World) (h : sig.size = 64) (hS : sig.extract 32 64 = S) (hC : ocanB S = false) : Calls Tryz.prog 12 #[.string pub, .string s, .string sig] W fun r w' => r = .returned (.bool false) ∧ Below W.heap.size W w' := by
  have zS : S.size = 32 := by rw [← hS, ByteArray.size_extract, h]; rfl
  have C1 := hid (fun w => hC ▸ oref_Canonical S w (by omega))
  have hn : ((sig.size : Int) != 64) = false := by rw [bne_eq_false_iff_eq]; omega
  clear hC
  go_enter Tryz.func12, Tryz.ntmps12
  go_wp2_with fail
  refine (C1.out _).mono ?_
  rintro e w1 ⟨rfl, hb1⟩
  simp only []
  go_wp2_with fail
  go_ret
  exact ⟨rfl, hb1⟩
set_option maxRecDepth 100000 in
set_option maxHeartbeats 1000000 in
theorem rver_bad (pub s sig R S : ByteArray) (u q : R3) (c c' : Int) (W : World) (h : sig.size = 64) (hR : sig.extract 0 32 = R) (hS : sig.extract 32 64 = S) (hC : ocanB S = true) (hp : pub.size ≤ 9223372036854775807)
    (h1 : rdecV pub = .tuple #[rv u, .int .i64 c]) (h2 : rdecV R = .tuple #[rv q, .int .i64 c']) (hc : c ≠ 0 ∨ c' ≠ 0) :
    Calls Tryz.prog 12 #[.string pub, .string s, .string sig] W fun r w' => r = .returned (.bool false) ∧ Below W.heap.size W w' := by
  have zR : R.size = 32 := by rw [← hR, ByteArray.size_extract, h]; rfl
  have zS : S.size = 32 := by rw [← hS, ByteArray.size_extract, h]; rfl
  have C1 := hid (fun w => hC ▸ oref_Canonical S w (by omega))
  have D1 := hid (fun w => h1 ▸ rdecode_v pub w (by omega))
  have D2 := hid (fun w => h2 ▸ rdecode_v R w (by omega))
  have hn : ((sig.size : Int) != 64) = false := by rw [bne_eq_false_iff_eq]; omega
  clear hC h1 h2
  go_enter Tryz.func12, Tryz.ntmps12
  go_wp2_with fail
  refine (C1.out _).mono ?_
  rintro e w1 ⟨rfl, hb1⟩
  have b1 := hid hb1
  clear hb1
  simp only []
  skip
  go_wp2_with fail
  skip
  refine (D1.out _).mono ?_
  rintro e w2 ⟨rfl, hb2⟩
  have b2 : Hid (Below W.heap.size W w2) := below_to (by repeat (first | exact Below.refl _ _ | exact below_new _ | exact b1.out | assumption | refine Below.drew ?_ | refine Below.drewN ?_ _ | refine below_alloc ?_ _ | refine below_blk' ?_ (by omega) _)) hb2
  clear hb2
  clear b1
  go_upto_region 4 with (fail)
  obtain ⟨A, hA⟩ : ∃ b, w2.heap.size = b := ⟨_, rfl⟩
  have wA : W.heap.size ≤ A := by rw [← hA]; exact b2.out.size
  obtain ⟨w3, hw3⟩ : ∃ w3, w2.alloc (.cells (rpt u.x u.y u.z) 50) = w3 := ⟨_, rfl⟩
  have kA := kept (show hget w3 (w2.heap.size) = some (.cells (rpt u.x u.y u.z) 50) by rw [← hw3]; clear hw3; go_simp)
  have b3 : Hid (Below W.heap.size W w3) := by rw [← hw3]; repeat (first | exact Below.refl _ _ | exact below_new _ | exact b2.out | assumption | refine Below.drew ?_ | refine Below.drewN ?_ _ | refine below_alloc ?_ _ | refine below_blk' ?_ (by omega) _)
  rw [hw3]
  clear hw3
  try clear gA lA nA mA
  try clear jA
  have jA := kA.later
  obtain ⟨gA, lA, nA, mA⟩ := kA
  clear b2
  rw [hA] at *
  clear hA
  go_wp2_with fail
  try clear jA
  refine (D2.out _).mono ?_
  rintro e w4 ⟨rfl, hb4⟩
  have kA := Kept.on (kept (b := A) (o := .cells (rpt u.x u.y u.z) 50 (0, 0)) (by go_simp)) hb4
  have b4 : Hid (Below W.heap.size W w4) := below_to (by repeat (first | exact Below.refl _ _ | exact below_new _ | exact b3.out | assumption | refine Below.drew ?_ | refine Below.drewN ?_ _ | refine below_alloc ?_ _ | refine below_blk' ?_ (by omega) _)) hb4
  clear hb4
  try clear gA lA nA mA
  obtain ⟨gA, lA, nA, mA⟩ := kA
  clear b3
  go_upto_region 5 with (fail)
  obtain ⟨B, hB⟩ : ∃ b, w4.heap.size = b := ⟨_, rfl⟩
  have wB : W.heap.size ≤ B := by rw [← hB]; exact b4.out.size
  have eAB : (A = B) = False := by rw [← hB]; exact nA
  have eBA : (B = A) = False := by rw [← hB]; exact mA
  obtain ⟨w5, hw5⟩ : ∃ w5, w4.alloc (.cells (rpt q.x q.y q.z) 50) = w5 := ⟨_, rfl⟩
  have kA := kept (show hget w5 (A) = some (.cells (rpt u.x u.y u.z) 50 (0, 0)) by rw [← hw5]; clear hw5; go_simp)
  have kB := kept (show hget w5 (w4.heap.size) = some (.cells (rpt q.x q.y q.z) 50) by rw [← hw5]; clear hw5; go_simp)
  have b5 : Hid (Below W.heap.size W w5) := by rw [← hw5]; repeat (first | exact Below.refl _ _ | exact below_new _ | exact b4.out | assumption | refine Below.drew ?_ | refine Below.drewN ?_ _ | refine below_alloc ?_ _ | refine below_blk' ?_ (by omega) _)
  rw [hw5]
  clear hw5
  try clear gA lA nA mA
  try clear jA
  have jA := kA.later
  obtain ⟨gA, lA, nA, mA⟩ := kA
  try clear gB lB nB mB
  try clear jB
  have jB := kB.later
  obtain ⟨gB, lB, nB, mB⟩ := kB
  clear b4
  rw [hB] at *
  clear hB
  clear C1 D1 D2
  by_cases h0 : c = 0
  · have q1 : (c != 0) = false := by rw [bne_eq_false_iff_eq]; exact h0
    have q2 : (c' != 0) = true := by rw [bne_iff_ne]; omega
    clear h0 hc
    go_wp2_with fail
    go_ret
    exact ⟨rfl, b5.out⟩
  · have q1 : (c != 0) = true := by rw [bne_iff_ne]; omega
    clear h0 hc
    go_wp2_with fail
    go_ret
    exact ⟨rfl, b5.out⟩
set_option maxRecDepth 100000 in
set_option maxHeartbeats 2000000 in
theorem rver_core (pub s sig R S H : ByteArray) (u q b1' b2' b3' M v T : R3) (k n : Nat) (F V : Bool) (W : World) (h : sig.size = 64) (hR : sig.extract 0 32 = R) (hS : sig.extract 32 64 = S) (hp : pub.size = 32) (hs : s.size ≤ 1099511627000)
    (h1 : rdecV pub = .tuple #[rv u, .int .i64 0]) (h2 : rdecV R = .tuple #[rv q, .int .i64 0]) (bu : u.bd) (bq : q.bd) (hC : ocanB S = true) (e1 : u.add u = b1') (e2 : b1'.add b1' = b2') (e3 : b2'.add b2' = b3') (hF : b3'.same R3.zero = F)
    (hH : (⟨(SH.sha (R ++ pub ++ s).data.toList).toArray⟩ : ByteArray) = H) (hk : bytesNat H.data.toList % ordL = k) (hN : bytesNat S.data.toList % ordL = n)
    (hM : u.times k = M) (hv : q.add M = v) (ht : rbm n = T) (hV : T.same v = V) :
    Calls Tryz.prog 12 #[.string pub, .string s, .string sig] W fun r w' => r = .returned (.bool (!F && V)) ∧ Below W.heap.size W w' := by
  have zH : H.size = 64 := by
    rw [← hH]
    show (SH.sha _).toArray.size = 64
    simp [SH.sha_length]
  have lk : k < ordL := hk ▸ Nat.mod_lt _ (by decide)
  have ln : n < ordL := hN ▸ Nat.mod_lt _ (by decide)
  have x1 : b1'.bd := e1 ▸ R3.add_bd _ _
  have x2 : b2'.bd := e2 ▸ R3.add_bd _ _
  have x3 : b3'.bd := e3 ▸ R3.add_bd _ _
  have xM : M.bd := hM ▸ R3.times_bd bu k
  have xv : v.bd := hv ▸ R3.add_bd _ _
  have xT : T.bd := ht ▸ (rbm_ok ln).bd
  have zR : R.size = 32 := by rw [← hR, ByteArray.size_extract, h]; rfl
  have zS : S.size = 32 := by rw [← hS, ByteArray.size_extract, h]; rfl
  have C1 := hid (fun w => hC ▸ oref_Canonical S w (by omega))
  have D1 := hid (fun w => h1 ▸ rdecode_v pub w (by omega))
  have D2 := hid (fun w => h2 ▸ rdecode_v R w (by omega))
  have hn : ((sig.size : Int) != 64) = false := by rw [bne_eq_false_iff_eq]; omega
  clear hC h1 h2
  have zRp : (R ++ pub).size = 64 := by rw [ByteArray.size_append]; omega
  have zRs : (R ++ pub ++ s).size = 64 + s.size := by rw [ByteArray.size_append]; omega
  have A1 := hid (fun w => e1 ▸ radd_pt u u w bu bu)
  have A2 := hid (fun w => e2 ▸ radd_pt b1' b1' w x1 x1)
  have A3 := hid (fun w => e3 ▸ radd_pt b2' b2' w x2 x2)
  have Z1 := hid (fun w => rzero_any w)
  have S1 := hid (fun w => hF ▸ rsame_v b3' R3.zero w x3 R3.zero_bd)
  have G1 : Hid (∀ w, Calls Tryz.prog 25 #[.string (R ++ pub ++ s)] w fun e w' => e = .returned (.string H) ∧ Below w.heap.size w w') := hid (fun w => by rw [← hH]; exact ROf_any _ w (by omega))
  have O1 : Hid (∀ w, Calls Tryz.prog 24 #[.string H] w fun e w' => e = .returned (.agg (on32 k)) ∧ Below w.heap.size w w') := hid (fun w => hk ▸ oref_Of H w (by omega))
  have O2 : Hid (∀ w, Calls Tryz.prog 24 #[.string S] w fun e w' => e = .returned (.agg (on32 n)) ∧ Below w.heap.size w w') := hid (fun w => hN ▸ oref_Of S w (by omega))
  have B1 := fun w => rbase_any w
  have M1 := fun w => rbm_v n w ln
  rw [ht] at M1
  generalize rP bsB = bb at *
  have B1 := hid B1
  have M1 := hid M1
  have M2 : Hid (∀ w, Calls Tryz.prog 17 #[rv u, .agg (on32 k)] w fun r w' => r = .returned (rv M) ∧ Below w.heap.size w w') := hid (fun w => hM ▸ rtimes_v u k w bu (Nat.lt_trans lk (by decide)))
  have A4 := hid (fun w => hv ▸ radd_pt q M w bq xM)
  have S2 := hid (fun w => hV ▸ rsame_v T v w xT xv)
  generalize R3.zero = zz at *
  clear hH hk hN hM hv ht hV hF e1 e2 e3 bu bq x1 x2 x3 xM xv xT lk ln
  go_enter Tryz.func12, Tryz.ntmps12
  go_wp2_with fail
  refine (C1.out _).mono ?_
  rintro e w1 ⟨rfl, hb1⟩
  have b1 := hid hb1
  clear hb1
  simp only []
  skip
  go_wp2_with fail
  skip
  refine (D1.out _).mono ?_
  rintro e w2 ⟨rfl, hb2⟩
  have b2 : Hid (Below W.heap.size W w2) := below_to (by repeat (first | exact Below.refl _ _ | exact below_new _ | exact b1.out | assumption | refine Below.drew ?_ | refine Below.drewN ?_ _ | refine below_alloc ?_ _ | refine below_blk' ?_ (by omega) _)) hb2
  clear hb2
  clear b1
  go_upto_region 4 with (fail)
  obtain ⟨A, hA⟩ : ∃ b, w2.heap.size = b := ⟨_, rfl⟩
  have wA : W.heap.size ≤ A := by rw [← hA]; exact b2.out.size
  obtain ⟨w3, hw3⟩ : ∃ w3, w2.alloc (.cells (rpt u.x u.y u.z) 50) = w3 := ⟨_, rfl⟩
  have kA := kept (show hget w3 (w2.heap.size) = some (.cells (rpt u.x u.y u.z) 50) by rw [← hw3]; clear hw3; go_simp)
  have b3 : Hid (Below W.heap.size W w3) := by rw [← hw3]; repeat (first | exact Below.refl _ _ | exact below_new _ | exact b2.out | assumption | refine Below.drew ?_ | refine Below.drewN ?_ _ | refine below_alloc ?_ _ | refine below_blk' ?_ (by omega) _)
  rw [hw3]
  clear hw3
  try clear gA lA nA mA
  try clear jA
  have jA := kA.later
  obtain ⟨gA, lA, nA, mA⟩ := kA
  clear b2
  rw [hA] at *
  clear hA
  go_wp2_with fail
  try clear jA
  refine (D2.out _).mono ?_
  rintro e w4 ⟨rfl, hb4⟩
  have kA := Kept.on (kept (b := A) (o := .cells (rpt u.x u.y u.z) 50 (0, 0)) (by go_simp)) hb4
  have b4 : Hid (Below W.heap.size W w4) := below_to (by repeat (first | exact Below.refl _ _ | exact below_new _ | exact b3.out | assumption | refine Below.drew ?_ | refine Below.drewN ?_ _ | refine below_alloc ?_ _ | refine below_blk' ?_ (by omega) _)) hb4
  clear hb4
  try clear gA lA nA mA
  obtain ⟨gA, lA, nA, mA⟩ := kA
  clear b3
  go_upto_region 5 with (fail)
  obtain ⟨B, hB⟩ : ∃ b, w4.heap.size = b := ⟨_, rfl⟩
  have wB : W.heap.size ≤ B := by rw [← hB]; exact b4.out.size
  have eAB : (A = B) = False := by rw [← hB]; exact nA
  have eBA : (B = A) = False := by rw [← hB]; exact mA
  obtain ⟨w5, hw5⟩ : ∃ w5, w4.alloc (.cells (rpt q.x q.y q.z) 50) = w5 := ⟨_, rfl⟩
  have kA := kept (show hget w5 (A) = some (.cells (rpt u.x u.y u.z) 50 (0, 0)) by rw [← hw5]; clear hw5; go_simp)
  have kB := kept (show hget w5 (w4.heap.size) = some (.cells (rpt q.x q.y q.z) 50) by rw [← hw5]; clear hw5; go_simp)
  have b5 : Hid (Below W.heap.size W w5) := by rw [← hw5]; repeat (first | exact Below.refl _ _ | exact below_new _ | exact b4.out | assumption | refine Below.drew ?_ | refine Below.drewN ?_ _ | refine below_alloc ?_ _ | refine below_blk' ?_ (by omega) _)
  rw [hw5]
  clear hw5
  try clear gA lA nA mA
  try clear jA
  have jA := kA.later
  obtain ⟨gA, lA, nA, mA⟩ := kA
  try clear gB lB nB mB
  try clear jB
  have jB := kB.later
  obtain ⟨gB, lB, nB, mB⟩ := kB
  clear b4
  rw [hB] at *
  clear hB
  clear C1 D1 D2
  go_wp2_with fail
  try clear jA jB
  refine (A1.out _).mono ?_
  rintro e w6 ⟨rfl, hb6⟩
  have kA := Kept.on (kept (b := A) (o := .cells (rpt u.x u.y u.z) 50 (0, 0)) (by go_simp)) hb6
  have kB := Kept.on (kept (b := B) (o := .cells (rpt q.x q.y q.z) 50 (0, 0)) (by go_simp)) hb6
  have b6 : Hid (Below W.heap.size W w6) := below_to (by repeat (first | exact Below.refl _ _ | exact below_new _ | exact b5.out | assumption | refine Below.drew ?_ | refine Below.drewN ?_ _ | refine below_alloc ?_ _ | refine below_blk' ?_ (by omega) _)) hb6
  clear hb6
  try clear gA lA nA mA
  obtain ⟨gA, lA, nA, mA⟩ := kA
  try clear gB lB nB mB
  obtain ⟨gB, lB, nB, mB⟩ := kB
  clear b5
  go_upto_region 8 with (fail)
  obtain ⟨C, hC⟩ : ∃ b, w6.heap.size = b := ⟨_, rfl⟩
  have wC : W.heap.size ≤ C := by rw [← hC]; exact b6.out.size
  have eAC : (A = C) = False := by rw [← hC]; exact nA
  have eCA : (C = A) = False := by rw [← hC]; exact mA
  have eBC : (B = C) = False := by rw [← hC]; exact nB
  have eCB : (C = B) = False := by rw [← hC]; exact mB
  obtain ⟨w7, hw7⟩ : ∃ w7, w6.alloc (.cells (rpt b1'.x b1'.y b1'.z) 50) = w7 := ⟨_, rfl⟩
  have kA := kept (show hget w7 (A) = some (.cells (rpt u.x u.y u.z) 50 (0, 0)) by rw [← hw7]; clear hw7; go_simp)
  have kB := kept (show hget w7 (B) = some (.cells (rpt q.x q.y q.z) 50 (0, 0)) by rw [← hw7]; clear hw7; go_simp)
  have kC := kept (show hget w7 (w6.heap.size) = some (.cells (rpt b1'.x b1'.y b1'.z) 50) by rw [← hw7]; clear hw7; go_simp)
  have b7 : Hid (Below W.heap.size W w7) := by rw [← hw7]; repeat (first | exact Below.refl _ _ | exact below_new _ | exact b6.out | assumption | refine Below.drew ?_ | refine Below.drewN ?_ _ | refine below_alloc ?_ _ | refine below_blk' ?_ (by omega) _)
  rw [hw7]
  clear hw7
  try clear gA lA nA mA
  try clear jA
  have jA := kA.later
  obtain ⟨gA, lA, nA, mA⟩ := kA
  try clear gB lB nB mB
  try clear jB
  have jB := kB.later
  obtain ⟨gB, lB, nB, mB⟩ := kB
  try clear gC lC nC mC
  try clear jC
  have jC := kC.later
  obtain ⟨gC, lC, nC, mC⟩ := kC
  clear b6
  rw [hC] at *
  clear hC
  go_wp2_with fail
  try clear jA jB jC
  refine (A2.out _).mono ?_
  rintro e w8 ⟨rfl, hb8⟩
  have kA := Kept.on (kept (b := A) (o := .cells (rpt u.x u.y u.z) 50 (0, 0)) (by go_simp)) hb8
  have kB := Kept.on (kept (b := B) (o := .cells (rpt q.x q.y q.z) 50 (0, 0)) (by go_simp)) hb8
  have kC := Kept.on (kept (b := C) (o := .cells (rpt b1'.x b1'.y b1'.z) 50 (0, 0)) (by go_simp)) hb8
  have b8 : Hid (Below W.heap.size W w8) := below_to (by repeat (first | exact Below.refl _ _ | exact below_new _ | exact b7.out | assumption | refine Below.drew ?_ | refine Below.drewN ?_ _ | refine below_alloc ?_ _ | refine below_blk' ?_ (by omega) _)) hb8
  clear hb8
  try clear gA lA nA mA
  obtain ⟨gA, lA, nA, mA⟩ := kA
  try clear gB lB nB mB
  obtain ⟨gB, lB, nB, mB⟩ := kB
  try clear gC lC nC mC
  obtain ⟨gC, lC, nC, mC⟩ := kC
  clear b7
  go_upto_region 9 with (fail)
  obtain ⟨w9, hw9⟩ : ∃ w9, blk w8 (C) (.cells (rpt b2'.x b2'.y b2'.z) 50 (0, 0)) = w9 := ⟨_, rfl⟩
  have kA := kept (show hget w9 (A) = some (.cells (rpt u.x u.y u.z) 50 (0, 0)) by rw [← hw9]; clear hw9; go_simp)
  have kB := kept (show hget w9 (B) = some (.cells (rpt q.x q.y q.z) 50 (0, 0)) by rw [← hw9]; clear hw9; go_simp)
  have kC := kept (show hget w9 (C) = some (.cells (rpt b2'.x b2'.y b2'.z) 50 (0, 0)) by rw [← hw9]; clear hw9; go_simp)
  have b9 : Hid (Below W.heap.size W w9) := by rw [← hw9]; repeat (first | exact Below.refl _ _ | exact below_new _ | exact b8.out | assumption | refine Below.drew ?_ | refine Below.drewN ?_ _ | refine below_alloc ?_ _ | refine below_blk' ?_ (by omega) _)
  rw [hw9]
  clear hw9
  try clear gA lA nA mA
  try clear jA
  have jA := kA.later
  obtain ⟨gA, lA, nA, mA⟩ := kA
  try clear gB lB nB mB
  try clear jB
  have jB := kB.later
  obtain ⟨gB, lB, nB, mB⟩ := kB
  try clear gC lC nC mC
  try clear jC
  have jC := kC.later
  obtain ⟨gC, lC, nC, mC⟩ := kC
  clear b8
  go_wp2_with fail
  try clear jA jB jC
  refine (A3.out _).mono ?_
  rintro e w10 ⟨rfl, hb10⟩
  have kA := Kept.on (kept (b := A) (o := .cells (rpt u.x u.y u.z) 50 (0, 0)) (by go_simp)) hb10
  have kB := Kept.on (kept (b := B) (o := .cells (rpt q.x q.y q.z) 50 (0, 0)) (by go_simp)) hb10
  have kC := Kept.on (kept (b := C) (o := .cells (rpt b2'.x b2'.y b2'.z) 50 (0, 0)) (by go_simp)) hb10
  have b10 : Hid (Below W.heap.size W w10) := below_to (by repeat (first | exact Below.refl _ _ | exact below_new _ | exact b9.out | assumption | refine Below.drew ?_ | refine Below.drewN ?_ _ | refine below_alloc ?_ _ | refine below_blk' ?_ (by omega) _)) hb10
  clear hb10
  try clear gA lA nA mA
  obtain ⟨gA, lA, nA, mA⟩ := kA
  try clear gB lB nB mB
  obtain ⟨gB, lB, nB, mB⟩ := kB
  try clear gC lC nC mC
  obtain ⟨gC, lC, nC, mC⟩ := kC
  clear b9
  go_wp2_with fail
  try clear jA jB jC
  refine (Z1.out _).mono ?_
  rintro e w11 ⟨rfl, hb11⟩
  have kA := Kept.on (kept (b := A) (o := .cells (rpt u.x u.y u.z) 50 (0, 0)) (by go_simp)) hb11
  have kB := Kept.on (kept (b := B) (o := .cells (rpt q.x q.y q.z) 50 (0, 0)) (by go_simp)) hb11
  have kC := Kept.on (kept (b := C) (o := .cells (rpt b2'.x b2'.y b2'.z) 50 (0, 0)) (by go_simp)) hb11
  have b11 : Hid (Below W.heap.size W w11) := below_to (by repeat (first | exact Below.refl _ _ | exact below_new _ | exact b10.out | assumption | refine Below.drew ?_ | refine Below.drewN ?_ _ | refine below_alloc ?_ _ | refine below_blk' ?_ (by omega) _)) hb11
  clear hb11
  try clear gA lA nA mA
  obtain ⟨gA, lA, nA, mA⟩ := kA
  try clear gB lB nB mB
  obtain ⟨gB, lB, nB, mB⟩ := kB
  try clear gC lC nC mC
  obtain ⟨gC, lC, nC, mC⟩ := kC
  clear b10
  go_wp2_with fail
  try clear jA jB jC
  refine (S1.out _).mono ?_
  rintro e w12 ⟨rfl, hb12⟩
  have kA := Kept.on (kept (b := A) (o := .cells (rpt u.x u.y u.z) 50 (0, 0)) (by go_simp)) hb12
  have kB := Kept.on (kept (b := B) (o := .cells (rpt q.x q.y q.z) 50 (0, 0)) (by go_simp)) hb12
  have kC := Kept.on (kept (b := C) (o := .cells (rpt b2'.x b2'.y b2'.z) 50 (0, 0)) (by go_simp)) hb12
  have b12 : Hid (Below W.heap.size W w12) := below_to (by repeat (first | exact Below.refl _ _ | exact below_new _ | exact b11.out | assumption | refine Below.drew ?_ | refine Below.drewN ?_ _ | refine below_alloc ?_ _ | refine below_blk' ?_ (by omega) _)) hb12
  clear hb12
  try clear gA lA nA mA
  obtain ⟨gA, lA, nA, mA⟩ := kA
  try clear gB lB nB mB
  obtain ⟨gB, lB, nB, mB⟩ := kB
  try clear gC lC nC mC
  obtain ⟨gC, lC, nC, mC⟩ := kC
  clear b11
  clear A1 A2 A3 Z1 S1
  skip
  cases F
  · go_wp2_with fail
    try clear jA jB jC
    refine (G1.out _).mono ?_
    rintro e w13 ⟨rfl, hb13⟩
    have kA := Kept.on (kept (b := A) (o := .cells (rpt u.x u.y u.z) 50 (0, 0)) (by go_simp)) hb13
    have kB := Kept.on (kept (b := B) (o := .cells (rpt q.x q.y q.z) 50 (0, 0)) (by go_simp)) hb13
    have kC := Kept.on (kept (b := C) (o := .cells (rpt b2'.x b2'.y b2'.z) 50 (0, 0)) (by go_simp)) hb13
    have b13 : Hid (Below W.heap.size W w13) := below_to (by repeat (first | exact Below.refl _ _ | exact below_new _ | exact b12.out | assumption | refine Below.drew ?_ | refine Below.drewN ?_ _ | refine below_alloc ?_ _ | refine below_blk' ?_ (by omega) _)) hb13
    clear hb13
    try clear gA lA nA mA
    obtain ⟨gA, lA, nA, mA⟩ := kA
    try clear gB lB nB mB
    obtain ⟨gB, lB, nB, mB⟩ := kB
    try clear gC lC nC mC
    obtain ⟨gC, lC, nC, mC⟩ := kC
    clear b12
    go_wp2_with fail
    try clear jA jB jC
    refine (O1.out _).mono ?_
    rintro e w14 ⟨rfl, hb14⟩
    have kA := Kept.on (kept (b := A) (o := .cells (rpt u.x u.y u.z) 50 (0, 0)) (by go_simp)) hb14
    have kB := Kept.on (kept (b := B) (o := .cells (rpt q.x q.y q.z) 50 (0, 0)) (by go_simp)) hb14
    have kC := Kept.on (kept (b := C) (o := .cells (rpt b2'.x b2'.y b2'.z) 50 (0, 0)) (by go_simp)) hb14
    have b14 : Hid (Below W.heap.size W w14) := below_to (by repeat (first | exact Below.refl _ _ | exact below_new _ | exact b13.out | assumption | refine Below.drew ?_ | refine Below.drewN ?_ _ | refine below_alloc ?_ _ | refine below_blk' ?_ (by omega) _)) hb14
    clear hb14
    try clear gA lA nA mA
    obtain ⟨gA, lA, nA, mA⟩ := kA
    try clear gB lB nB mB
    obtain ⟨gB, lB, nB, mB⟩ := kB
    try clear gC lC nC mC
    obtain ⟨gC, lC, nC, mC⟩ := kC
    clear b13
    go_upto_region 12 with (fail)
    obtain ⟨K, hK⟩ : ∃ b, w14.heap.size = b := ⟨_, rfl⟩
    have wK : W.heap.size ≤ K := by rw [← hK]; exact b14.out.size
    have eAK : (A = K) = False := by rw [← hK]; exact nA
    have eKA : (K = A) = False := by rw [← hK]; exact mA
    have eBK : (B = K) = False := by rw [← hK]; exact nB
    have eKB : (K = B) = False := by rw [← hK]; exact mB
    have eCK : (C = K) = False := by rw [← hK]; exact nC
    have eKC : (K = C) = False := by rw [← hK]; exact mC
    obtain ⟨w15, hw15⟩ : ∃ w15, w14.alloc (.cells (on32 k) 44) = w15 := ⟨_, rfl⟩
    have kA := kept (show hget w15 (A) = some (.cells (rpt u.x u.y u.z) 50 (0, 0)) by rw [← hw15]; clear hw15; go_simp)
    have kB := kept (show hget w15 (B) = some (.cells (rpt q.x q.y q.z) 50 (0, 0)) by rw [← hw15]; clear hw15; go_simp)
    have kC := kept (show hget w15 (C) = some (.cells (rpt b2'.x b2'.y b2'.z) 50 (0, 0)) by rw [← hw15]; clear hw15; go_simp)
    have kK := kept (show hget w15 (w14.heap.size) = some (.cells (on32 k) 44) by rw [← hw15]; clear hw15; go_simp)
    have b15 : Hid (Below W.heap.size W w15) := by rw [← hw15]; repeat (first | exact Below.refl _ _ | exact below_new _ | exact b14.out | assumption | refine Below.drew ?_ | refine Below.drewN ?_ _ | refine below_alloc ?_ _ | refine below_blk' ?_ (by omega) _)
    rw [hw15]
    clear hw15
    try clear gA lA nA mA
    try clear jA
    have jA := kA.later
    obtain ⟨gA, lA, nA, mA⟩ := kA
    try clear gB lB nB mB
    try clear jB
    have jB := kB.later
    obtain ⟨gB, lB, nB, mB⟩ := kB
    try clear gC lC nC mC
    try clear jC
    have jC := kC.later
    obtain ⟨gC, lC, nC, mC⟩ := kC
    try clear gK lK nK mK
    try clear jK
    have jK := kK.later
    obtain ⟨gK, lK, nK, mK⟩ := kK
    clear b14
    rw [hK] at *
    clear hK
    have jA := Kept.later (kept gA)
    have jB := Kept.later (kept gB)
    have jC := Kept.later (kept gC)
    have jK := Kept.later (kept gK)
    refine wp_region_later (by kernel_rfl) (by kernel_rfl) ?_
    repeat ((go_big_quiet_step ((first | (go_at_call 16; with_reducible exact calls_later (B1.out _)) | (go_at_call 17; first | with_reducible exact calls_later (M1.out _) | with_reducible exact calls_later (M2.out _)) | (go_at_call 24; with_reducible exact calls_later (O2.out _)) | (go_at_call 37; with_reducible exact calls_later (A4.out _)) | (go_at_call 38; with_reducible exact calls_later (S2.out _))))))
    refine wpQuiet_nil ?_
    intro wL hwL
    obtain ⟨⟨w8, hL⟩, e8⟩ := hwL
    change wL = w8 at e8
    subst e8
    go_wp2_with fail
    go_ret
    exact ⟨rfl, below_to b15.out hL⟩
  · skip
    go_wp2_with fail
    go_ret
    exact ⟨rfl, b12.out⟩

open Classical in
set_option maxRecDepth 100000 in
/-- Which signatures the document verifies. -/
theorem rver_any (pub s sig : ByteArray) (W : World) (hp : pub.size ≤ 9223372036854775807) (hs : s.size ≤ 1099511627000) : Calls Tryz.prog 12 #[.string pub, .string s, .string sig] W fun r w' => r = .returned (.bool (vrB pub s sig)) ∧ Below W.heap.size W w' := by
  by_cases h : sig.size = 64
  · cases hC : ocanB (sig.extract 32 64)
    · rw [vrB_false (fun hv => by rw [hv.2.1] at hC; cases hC)]
      exact rver_nocan pub s sig _ W h rfl hC
    · obtain ⟨u, c, e1, i1⟩ := rdecV_form pub
      obtain ⟨u', c', e2, i2⟩ := rdecV_form (sig.extract 0 32)
      by_cases hc : c = 0 ∧ c' = 0
      · have d1 := i1.1 hc.1
        have d2 := i2.1 hc.2
        have f1 : rdecV pub = .tuple #[rv (rP pub), .int .i64 0] := by unfold rdecV; rw [if_pos d1]
        have f2 : rdecV (sig.extract 0 32) = .tuple #[rv (rP (sig.extract 0 32)), .int .i64 0] := by unfold rdecV; rw [if_pos d2]
        have hp32 : pub.size = 32 := by
          have d3 := d1
          unfold dOk at d3
          rw [Bool.and_eq_true] at d3
          exact of_decide_eq_true d3.1
        have oa := rP_ok d1
        have oq := rP_ok d2
        have lk : vrNum pub s sig < ordL := redN_lt _
        have o1 := R3.add_ok oa oa
        have o2 := R3.add_ok o1 o1
        have o3 := R3.add_ok o2 o2
        have iF := R3.same_iff o3 R3.zero_ok
        have oM := R3.times_ok oa (n := vrNum pub s sig) (Nat.lt_trans lk (by decide))
        have ov := R3.add_ok oq oM
        have ot := rbm_ok (n := bytesNat (sig.extract 32 64).data.toList % ordL) (Nat.mod_lt _ (by decide))
        have iV := R3.same_iff ot ov
        obtain ⟨H, hH⟩ : ∃ H, (⟨(SH.sha (sig.extract 0 32 ++ pub ++ s).data.toList).toArray⟩ : ByteArray) = H := ⟨_, rfl⟩
        have hk : bytesNat H.data.toList % ordL = vrNum pub s sig := by
          rw [← hH, ba_list, ByteArray.data_append, ByteArray.data_append, Array.toList_append, Array.toList_append, List.append_assoc]
          unfold vrNum redN
          with_reducible rfl
        obtain ⟨b1, g1⟩ : ∃ b1, (rP pub).add (rP pub) = b1 := ⟨_, rfl⟩
        obtain ⟨b2, g2⟩ : ∃ b2, b1.add b1 = b2 := ⟨_, rfl⟩
        obtain ⟨b3, g3⟩ : ∃ b3, b2.add b2 = b3 := ⟨_, rfl⟩
        rw [g1, g2, g3] at iF
        obtain ⟨F, hF⟩ : ∃ F, b3.same R3.zero = F := ⟨_, rfl⟩
        obtain ⟨M, hM⟩ : ∃ M, (rP pub).times (vrNum pub s sig) = M := ⟨_, rfl⟩
        obtain ⟨v, hv⟩ : ∃ v, (rP (sig.extract 0 32)).add M = v := ⟨_, rfl⟩
        obtain ⟨tn, ht⟩ : ∃ tn, rbm (bytesNat (sig.extract 32 64).data.toList % ordL) = tn := ⟨_, rfl⟩
        obtain ⟨V, hV⟩ : ∃ V, tn.same v = V := ⟨_, rfl⟩
        rw [hM, hv, ht, hV] at iV
        rw [hF] at iF
        have hcore := rver_core pub s sig _ _ H (rP pub) (rP (sig.extract 0 32)) b1 b2 b3 M v tn (vrNum pub s sig) _ F V W h rfl rfl hp32 hs f1 f2 oa.bd oq.bd hC g1 g2 g3 hF hH hk rfl hM hv ht hV
        have h8 : Pt.mul 8 (dPt pub d1) = (((dPt pub d1).add (dPt pub d1)).add ((dPt pub d1).add (dPt pub d1))).add (((dPt pub d1).add (dPt pub d1)).add ((dPt pub d1).add (dPt pub d1))) := by
          rw [show (8 : Nat) = (2 + 2) + (2 + 2) from rfl, Pt.mul_add, Pt.mul_add, show (2 : Nat) = 1 + 1 from rfl, Pt.mul_add, Pt.mul_one]
        rw [← h8] at iF
        have hfin : (!F && V) = vrB pub s sig := by
          rw [Bool.eq_iff_iff, Bool.and_eq_true, Bool.not_eq_true', ← Bool.not_eq_true, iF, iV]
          unfold vrB
          rw [decide_eq_true_eq]
          unfold vrOk
          constructor
          · rintro ⟨g1, g3⟩
            exact ⟨h, hC, d1, d2, g1, g3⟩
          · rintro ⟨_, _, _, _, g1, g3⟩
            exact ⟨g1, g3⟩
        rw [hfin] at hcore
        exact hcore
      · rw [vrB_false (fun hv => by
          obtain ⟨_, _, d1, d2, _⟩ := hv
          exact hc ⟨i1.2 d1, i2.2 d2⟩)]
        exact rver_bad pub s sig _ _ u u' c c' W h rfl rfl hC hp e1 e2 (by omega)
  · rw [vrB_false (vr_short h)]
    exact rver_short pub s sig W h

end Go.Proofs.YtceljjnohjnepaaGreatDoor

namespace Go.Proofs.YtceljjnohjnepaaGreatDoor
open EG DG NT

set_option maxRecDepth 100000 in
theorem T3.base_is : T3.is ⟨bxN, byN, 1⟩ bP := ⟨cv.one, by show fp bxN = fp bxN * fp 1; rw [← fp_mul, Nat.mul_one], by show fp byN = fp byN * fp 1; rw [← fp_mul, Nat.mul_one]⟩
set_option maxRecDepth 100000 in
theorem T3.coord {t : T3} {p : Pt cv} (h : t.is p) {x y : Nat} (hx : x < NT.P) (hy : y < NT.P) (hc : (decide (x * t.z % NT.P = t.x % NT.P) && decide (y * t.z % NT.P = t.y % NT.P)) = true) : p.x.val = x ∧ p.y.val = y := by
  rw [Bool.and_eq_true, decide_eq_true_eq, decide_eq_true_eq] at hc
  have ex : fp x * fp t.z = p.x * fp t.z := by rw [← h.hx, ← fp_mul, fp_eq]; exact hc.1
  have ey : fp y * fp t.z = p.y * fp t.z := by rw [← h.hy, ← fp_mul, fp_eq]; exact hc.2
  have cn : ∀ {a b : FP}, a * fp t.z = b * fp t.z → a = b := fun {a b} e => cv.cancel h.z (by rw [show fp t.z * a = a * fp t.z by grind, e]; grind)
  have h1 := cn ex
  have h2 := cn ey
  rw [← h1, ← h2]
  exact ⟨Nat.mod_eq_of_lt hx, Nat.mod_eq_of_lt hy⟩
set_option maxRecDepth 100000 in
theorem mul_known {n x y : Nat} (hn : n < 2 ^ 253) (hx : x < NT.P) (hy : y < NT.P) (hc : (let t := T3.mul 253 n ⟨bxN, byN, 1⟩; decide (x * t.z % NT.P = t.x % NT.P) && decide (y * t.z % NT.P = t.y % NT.P)) = true) : ptB (Pt.mul n bP) = encB y (decide (x % 2 = 1)) := by
  obtain ⟨h1, h2⟩ := T3.coord (T3.mul_is T3.base_is 253 n hn) hx hy hc
  unfold ptB
  rw [h1, h2]
def kZ : ByteArray := ⟨#[0, 0, 0, 0, 0, 0, 0, 0, 0, 0, 0, 0, 0, 0, 0, 0, 0, 0, 0, 0, 0, 0, 0, 0, 0, 0, 0, 0, 0, 0, 0, 0]⟩
def kT : ByteArray := ⟨#[116, 101, 120, 116]⟩
def kT2 : ByteArray := ⟨#[116, 101, 120, 84]⟩
def kPub : ByteArray := ⟨#[59, 106, 39, 188, 206, 182, 164, 45, 98, 163, 168, 208, 42, 111, 13, 115, 101, 50, 21, 119, 29, 226, 67, 166, 58, 192, 72, 161, 139, 89, 218, 41]⟩
def kQ : ByteArray := ⟨#[14, 186, 195, 4, 107, 49, 207, 22, 124, 98, 116, 156, 217, 148, 29, 121, 29, 24, 142, 196, 46, 189, 59, 57, 131, 192, 14, 94, 171, 221, 154, 200]⟩
set_option maxRecDepth 100000 in
theorem k_sha : SH.sha kZ.data.toList = [80, 70, 173, 193, 219, 168, 56, 134, 123, 43, 187, 253, 208, 195, 66, 62, 88, 181, 121, 112, 181, 38, 122, 144, 245, 121, 96, 146, 74, 135, 241, 150, 10, 106, 133, 234, 166, 66, 218, 200, 53, 66, 75, 93, 124, 141, 99, 124, 0, 64, 140, 122, 115, 218, 103, 43, 127, 73, 133, 33, 66, 11, 109, 211] := by decide +kernel
set_option maxRecDepth 100000 in
theorem k_h : sgH kZ = ⟨#[80, 70, 173, 193, 219, 168, 56, 134, 123, 43, 187, 253, 208, 195, 66, 62, 88, 181, 121, 112, 181, 38, 122, 144, 245, 121, 96, 146, 74, 135, 241, 150, 10, 106, 133, 234, 166, 66, 218, 200, 53, 66, 75, 93, 124, 141, 99, 124, 0, 64, 140, 122, 115, 218, 103, 43, 127, 73, 133, 33, 66, 11, 109, 211]⟩ := by unfold sgH; rw [k_sha]
set_option maxRecDepth 100000 in
theorem k_a : sgA kZ = 3140620980319341722849076354004524857726602937622481303882784251885505225391 := by
  unfold sgA sgL
  rw [k_h]
  decide +kernel
set_option maxRecDepth 100000 in
theorem k_pub : pubB kZ = kPub := by
  unfold pubB
  rw [k_a, mul_known (x := 9639205628789703341510410801487549615560488670885798085067615194958049462616) (y := 18930617471878267742194159801949745215346600387277955685031939302387136031291) (by decide +kernel) (by decide +kernel) (by decide +kernel) (by decide +kernel)]
  decide +kernel
set_option maxRecDepth 100000 in
theorem k_pre : (sgPre kZ).data.toList = [10, 106, 133, 234, 166, 66, 218, 200, 53, 66, 75, 93, 124, 141, 99, 124, 0, 64, 140, 122, 115, 218, 103, 43, 127, 73, 133, 33, 66, 11, 109, 211] := by
  unfold sgPre
  rw [k_h]
  decide +kernel
set_option maxRecDepth 100000 in
theorem k_shr : SH.sha ([10, 106, 133, 234, 166, 66, 218, 200, 53, 66, 75, 93, 124, 141, 99, 124, 0, 64, 140, 122, 115, 218, 103, 43, 127, 73, 133, 33, 66, 11, 109, 211] ++ kT.data.toList) = [136, 212, 239, 1, 55, 2, 143, 221, 51, 206, 240, 34, 101, 155, 231, 59, 191, 238, 181, 47, 217, 174, 208, 148, 63, 253, 36, 54, 129, 195, 103, 178, 190, 105, 20, 106, 200, 118, 38, 130, 254, 42, 66, 142, 252, 122, 84, 120, 50, 70, 148, 159, 38, 15, 11, 119, 183, 49, 240, 131, 50, 139, 200, 162] := by decide +kernel
set_option maxRecDepth 100000 in
theorem k_r : sgR kZ kT = 850196773666356309422339814893910971881761216279783485008188274366385375558 := by
  unfold sgR redN
  rw [k_pre, k_shr]
  decide +kernel
set_option maxRecDepth 100000 in
theorem k_q : sgQ kZ kT = kQ := by
  unfold sgQ
  rw [k_r, mul_known (x := 14323186114096107276011007998775139596920633365260878199248869679743839922731) (y := 32840149451969995985594777942676008289005610481737864901368891941030908377614) (by decide +kernel) (by decide +kernel) (by decide +kernel) (by decide +kernel)]
  decide +kernel
set_option maxRecDepth 100000 in
theorem k_sh1 : SH.sha (kQ.data.toList ++ (kPub.data.toList ++ kT.data.toList)) = [63, 59, 253, 9, 138, 202, 246, 110, 83, 165, 71, 48, 208, 53, 108, 72, 89, 6, 45, 72, 224, 148, 197, 236, 216, 234, 103, 0, 118, 240, 190, 95, 150, 220, 120, 47, 133, 53, 225, 127, 140, 157, 89, 224, 86, 61, 29, 112, 147, 82, 80, 112, 242, 195, 32, 191, 159, 212, 100, 184, 107, 23, 103, 247] := by decide +kernel
set_option maxRecDepth 100000 in
theorem k_sh2 : SH.sha (kQ.data.toList ++ (kPub.data.toList ++ kT2.data.toList)) = [148, 4, 219, 77, 200, 103, 108, 182, 124, 115, 232, 94, 25, 175, 203, 209, 147, 197, 221, 114, 12, 242, 15, 70, 183, 94, 143, 18, 63, 150, 208, 251, 78, 131, 101, 207, 93, 57, 152, 47, 177, 15, 110, 55, 47, 219, 151, 248, 126, 202, 211, 219, 247, 91, 233, 26, 235, 171, 47, 175, 162, 179, 207, 214] := by decide +kernel
set_option maxRecDepth 100000 in
theorem k_n1 : bytesNat [63, 59, 253, 9, 138, 202, 246, 110, 83, 165, 71, 48, 208, 53, 108, 72, 89, 6, 45, 72, 224, 148, 197, 236, 216, 234, 103, 0, 118, 240, 190, 95, 150, 220, 120, 47, 133, 53, 225, 127, 140, 157, 89, 224, 86, 61, 29, 112, 147, 82, 80, 112, 242, 195, 32, 191, 159, 212, 100, 184, 107, 23, 103, 247] % ordL = 3051700886902431880199312561605616305919771856675659439704689325507489791389 := by decide +kernel
set_option maxRecDepth 100000 in
theorem k_n2 : bytesNat [148, 4, 219, 77, 200, 103, 108, 182, 124, 115, 232, 94, 25, 175, 203, 209, 147, 197, 221, 114, 12, 242, 15, 70, 183, 94, 143, 18, 63, 150, 208, 251, 78, 131, 101, 207, 93, 57, 152, 47, 177, 15, 110, 55, 47, 219, 151, 248, 126, 202, 211, 219, 247, 91, 233, 26, 235, 171, 47, 175, 162, 179, 207, 214] % ordL = 6926124309909794583650894854177328360763410026704415995850608499506585452493 := by decide +kernel
set_option maxRecDepth 100000 in
theorem k_K1 : sgK kZ kT = 3051700886902431880199312561605616305919771856675659439704689325507489791389 := by
  unfold sgK
  rw [k_q, k_pub]
  unfold redN
  rw [k_sh1, k_n1]
set_option maxRecDepth 100000 in
theorem k_K2 : redN (kQ.data.toList ++ (kPub.data.toList ++ kT2.data.toList)) = 6926124309909794583650894854177328360763410026704415995850608499506585452493 := by
  unfold redN
  rw [k_sh2, k_n2]
set_option maxRecDepth 100000 in
theorem k_not : ¬ vrOk (pubB kZ) kT2 (sigB kZ kT) := fun h => by
  have h1 := vr_other h
  rw [k_K1, k_q, k_pub, k_K2] at h1
  have h2 : (3051700886902431880199312561605616305919771856675659439704689325507489791389 : Nat) ≠ 6926124309909794583650894854177328360763410026704415995850608499506585452493 := by decide
  exact h2 h1
set_option maxRecDepth 100000 in
theorem kZ_size : kZ.size = 32 := rfl

end Go.Proofs.YtceljjnohjnepaaGreatDoor

namespace Go.Proofs.YtceljjnohjnepaaGreatDoor
open Go Go.RowKit DG EG

set_option maxRecDepth 100000 in
theorem skconv (n : Nat) (w : World) (b : Nat) (h : w.heap[b]? = some (.cells (ints .u8 (List.replicate n 0)) 5 (0, 0))) : (convert 32 9 (.slice (some ⟨b, 0, none⟩) n n)).run Tryz.prog w = .ok (.string ⟨(List.replicate n 0).toArray⟩) w := by
  have := oconv_string w b 0 n n (List.replicate n 0) (by simp) (fun j hj => by
    rw [Nat.zero_add, ints_cell h (by simpa using hj)]; simp [hj])
  exact this
set_option maxRecDepth 100000 in
theorem skc32 (w : World) : (convert 32 9 (.slice (some ⟨w.heap.size, 0, none⟩) 32 32)).run Tryz.prog (w.alloc (.cells (ints .u8 [0, 0, 0, 0, 0, 0, 0, 0, 0, 0, 0, 0, 0, 0, 0, 0, 0, 0, 0, 0, 0, 0, 0, 0, 0, 0, 0, 0, 0, 0, 0, 0]) 5)) = .ok (.string kZ) (w.alloc (.cells (ints .u8 [0, 0, 0, 0, 0, 0, 0, 0, 0, 0, 0, 0, 0, 0, 0, 0, 0, 0, 0, 0, 0, 0, 0, 0, 0, 0, 0, 0, 0, 0, 0, 0]) 5)) := skconv 32 _ _ (alloc_at _ _)
attribute [local go_sem] skc32
set_option maxRecDepth 100000 in
theorem salive_size (x : ByteArray) (h : x.size = 64) : (x.extract 0 63).size = 63 := by rw [ByteArray.size_extract, h]; rfl
set_option maxRecDepth 100000 in
set_option maxHeartbeats 1000000 in
theorem salive_core (K p x y : ByteArray) (W : World) (hT : Tab W) (hK : kZ = K) (hp : pubB kZ = p) (hx : sigB kZ kT = x) (hy : x.extract 0 63 = y) :
    Calls Tryz.prog 6 #[] W fun e w' => e = .returned (.bool true) ∧ Below W.heap.size W w' := by
  have zK : K.size = 32 := hK ▸ kZ_size
  have zp : p.size = 32 := hp ▸ pubB_size kZ
  have zx : x.size = 64 := hx ▸ sigB_size kZ kT
  have zy : y.size = 63 := hy ▸ salive_size x zx
  have P1 : ∀ w, Tab w → Calls Tryz.prog 7 #[.string K] w fun r w' => r = .returned (.tuple #[.string p, .int .i64 0]) ∧ Below w.heap.size w w' := fun w h => by
    have h1 := spublic_any K w h
    unfold spS spE at h1
    rw [if_pos zK, if_pos zK, ← hK, hp] at h1
    rw [← hK]
    exact h1
  have S1 : ∀ w, Tab w → Calls Tryz.prog 9 #[.string K, .string ⟨#[116, 101, 120, 116]⟩] w fun r w' => r = .returned (.tuple #[.string x, .int .i64 0]) ∧ Below w.heap.size w w' := fun w h => by
    have h1 := ssign_any K kT w h (by decide)
    unfold siS spE at h1
    rw [if_pos zK, if_pos zK, ← hK, hx] at h1
    rw [← hK]
    exact h1
  have S2 : ∀ w, Tab w → Calls Tryz.prog 9 #[.string ⟨#[115, 104, 111, 114, 116]⟩, .string ⟨#[116, 101, 120, 116]⟩] w fun r w' => r = .returned (.tuple #[.string ⟨#[]⟩, .int .i64 2]) ∧ Below w.heap.size w w' := fun w _ => ssign_no _ _ w (by decide)
  have V1 : ∀ w, Tab w → Calls Tryz.prog 11 #[.string p, .string ⟨#[116, 101, 120, 116]⟩, .string x] w fun r w' => r = .returned (.bool true) ∧ Below w.heap.size w w' := fun w h => by
    have h1 := sverify_any p kT x w h (by omega) (by decide)
    rw [vrB_true (by rw [← hp, ← hx]; exact vr_self kZ kT)] at h1
    exact h1
  have V2 : ∀ w, Tab w → Calls Tryz.prog 11 #[.string p, .string ⟨#[116, 101, 120, 84]⟩, .string x] w fun r w' => r = .returned (.bool false) ∧ Below w.heap.size w w' := fun w h => by
    have h1 := sverify_any p kT2 x w h (by omega) (by decide)
    rw [vrB_false (by rw [← hp, ← hx]; exact k_not)] at h1
    exact h1
  have V3 : ∀ w, Tab w → Calls Tryz.prog 11 #[.string p, .string ⟨#[116, 101, 120, 116]⟩, .string y] w fun r w' => r = .returned (.bool false) ∧ Below w.heap.size w w' := fun w _ => sverify_short p _ y w (by omega)
  have P1 := hid P1
  have S1 := hid S1
  have S2 := hid S2
  have V1 := hid V1
  have V2 := hid V2
  have V3 := hid V3
  have HT := hid hT
  clear hT hp hx zK
  go_enter Tryz.func6, Tryz.ntmps6
  go_upto_region 2 with (fail)
  obtain ⟨w1, hw1⟩ : ∃ w1, W.alloc (.cells (ints .u8 [0, 0, 0, 0, 0, 0, 0, 0, 0, 0, 0, 0, 0, 0, 0, 0, 0, 0, 0, 0, 0, 0, 0, 0, 0, 0, 0, 0, 0, 0, 0, 0]) 5) = w1 := ⟨_, rfl⟩
  have b1 : Hid (Below W.heap.size W w1) := by rw [← hw1]; repeat (first | exact Below.refl _ _ | exact below_new _ | assumption | refine Below.drew ?_ | refine Below.drewN ?_ _ | refine below_alloc ?_ _ | refine below_blk' ?_ (by omega) _)
  rw [hw1]
  clear hw1
  clear hK
  go_wp2_with fail
  have TB := HT.out.keep b1.out
  skip
  refine (P1.out _ TB).mono ?_
  rintro e w2 ⟨rfl, hb2⟩
  have b2 : Hid (Below W.heap.size W w2) := below_to (by repeat (first | exact Below.refl _ _ | exact below_new _ | exact b1.out | assumption | refine Below.drew ?_ | refine Below.drewN ?_ _ | refine below_alloc ?_ _ | refine below_blk' ?_ (by omega) _)) hb2
  clear hb2
  clear b1
  clear TB
  go_wp2_with fail
  have TB := HT.out.keep b2.out
  skip
  refine (S1.out _ TB).mono ?_
  rintro e w3 ⟨rfl, hb3⟩
  have b3 : Hid (Below W.heap.size W w3) := below_to (by repeat (first | exact Below.refl _ _ | exact below_new _ | exact b2.out | assumption | refine Below.drew ?_ | refine Below.drewN ?_ _ | refine below_alloc ?_ _ | refine below_blk' ?_ (by omega) _)) hb3
  clear hb3
  clear b2
  clear TB
  go_wp2_with fail
  have TB := HT.out.keep b3.out
  skip
  refine (S2.out _ TB).mono ?_
  rintro e w4 ⟨rfl, hb4⟩
  have b4 : Hid (Below W.heap.size W w4) := below_to (by repeat (first | exact Below.refl _ _ | exact below_new _ | exact b3.out | assumption | refine Below.drew ?_ | refine Below.drewN ?_ _ | refine below_alloc ?_ _ | refine below_blk' ?_ (by omega) _)) hb4
  clear hb4
  clear b3
  clear TB
  go_wp2_with fail
  have TB := HT.out.keep b4.out
  skip
  refine (V1.out _ TB).mono ?_
  rintro e w5 ⟨rfl, hb5⟩
  have b5 : Hid (Below W.heap.size W w5) := below_to (by repeat (first | exact Below.refl _ _ | exact below_new _ | exact b4.out | assumption | refine Below.drew ?_ | refine Below.drewN ?_ _ | refine below_alloc ?_ _ | refine below_blk' ?_ (by omega) _)) hb5
  clear hb5
  clear b4
  clear TB
  go_wp2_with fail
  have TB := HT.out.keep b5.out
  skip
  refine (V2.out _ TB).mono ?_
  rintro e w6 ⟨rfl, hb6⟩
  have b6 : Hid (Below W.heap.size W w6) := below_to (by repeat (first | exact Below.refl _ _ | exact below_new _ | exact b5.out | assumption | refine Below.drew ?_ | refine Below.drewN ?_ _ | refine below_alloc ?_ _ | refine below_blk' ?_ (by omega) _)) hb6
  clear hb6
  clear b5
  clear TB
  go_wp2_with fail
  have TB := HT.out.keep b6.out
  skip
  refine (V3.out _ TB).mono ?_
  rintro e w7 ⟨rfl, hb7⟩
  have b7 : Hid (Below W.heap.size W w7) := below_to (by repeat (first | exact Below.refl _ _ | exact below_new _ | exact b6.out | assumption | refine Below.drew ?_ | refine Below.drewN ?_ _ | refine below_alloc ?_ _ | refine below_blk' ?_ (by omega) _)) hb7
  clear hb7
  clear b6
  clear TB
  go_wp2_with fail
  go_ret
  exact ⟨rfl, b7.out⟩
set_option maxRecDepth 100000 in
theorem salive_any (W : World) (hT : Tab W) : Calls Tryz.prog 6 #[] W fun e w' => e = .returned (.bool true) ∧ Below W.heap.size W w' :=
  salive_core _ _ _ _ W hT rfl rfl rfl rfl


end Go.Proofs.YtceljjnohjnepaaGreatDoor
