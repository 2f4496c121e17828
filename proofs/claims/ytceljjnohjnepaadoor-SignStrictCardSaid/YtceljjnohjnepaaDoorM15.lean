/- Signatures, the program's: what a secret holds; its public key; its signature of a text. Signatures, the program's: which signatures are verified. Signatures: a known run: the key of 32 noughts, its signature of one text, another text. Signatures, the laws: a known run. -/
import Derived.Test.YtceljjnohjnepaaDoorM14
namespace Go.Proofs.YtceljjnohjnepaaDoor
open Go Go.RowKit DG EG
attribute [local go_sem ↓] exl_Sc exs_Sc exb_Sc exl_Sg exs_Sg exb_Sg exl_Pt exs_Pt
                       attribute [local go_sem] ldm_Sc str_Sc bld_sc0 ldr_Sg str_Sg bld_sg bld_sg0 to_quad0 sg_zero ldr_Pt str_Pt pt_zero

set_option maxRecDepth 100000 in
theorem cat1 (s : ByteArray) : cat [s] = s.data.toList := by simp [cat]
set_option maxRecDepth 100000 in
theorem cat2 (s t : ByteArray) : cat [s, t] = s.data.toList ++ t.data.toList := by simp [cat]
set_option maxRecDepth 100000 in
theorem cat3 (s t u : ByteArray) : cat [s, t, u] = s.data.toList ++ (t.data.toList ++ u.data.toList) := by simp [cat]
set_option maxRecDepth 100000 in
theorem sof_no (sec : ByteArray) (W : World) (h : sec.size ≠ 32) : Calls Tryd.prog 9 #[.string sec] W fun r w' => r = .returned (.tuple #[.agg (sgr 0 ⟨#[]⟩), .int .i64 2]) ∧ Below W.heap.size W w' := by
  have hn : ((sec.size : Int) != 32) = true := by rw [bne_iff_ne]; omega
  go_enter Tryd.func9, Tryd.ntmps9
  go_upto_region 1 with (fail)
  obtain ⟨w1, hw1⟩ : ∃ w1, W.alloc (.cells (sgr 0 ⟨#[]⟩) 39) = w1 := ⟨_, rfl⟩
  have kR := kept (show hget w1 (W.heap.size) = some (.cells (sgr 0 ⟨#[]⟩) 39 (0, 0)) by rw [← hw1]; clear hw1; go_simp)
  have b1 : Hid (Below W.heap.size W w1) := by rw [← hw1]; repeat (first | exact Below.refl _ _ | exact below_new _ | assumption | refine Below.drew ?_ | refine Below.drewN ?_ _ | refine below_alloc ?_ _ | refine below_blk' ?_ (by omega) _)
  rw [hw1]
  clear hw1
  try clear gR lR nR mR
  try clear jR
  have jR := kR.later
  obtain ⟨gR, lR, nR, mR⟩ := kR
  go_wp2_with fail
  refine bodyPost_ret (v := .tuple #[.agg (sgr 0 ⟨#[]⟩), .int .i64 2]) (results_cell_tmp Tryd.results9 _ _ (W.heap.size) 39 (sgr 0 ⟨#[]⟩) (0, 0) _ (.int .i64 2) (by rfl) (by rfl) (by rw [← hget_eq]; go_simp) Tryd.underlying39 rfl (by rw [info_Sg]; go_simp)) rfl ?_
  exact ⟨rfl, below_blk' b1.out (by omega) _⟩
set_option maxRecDepth 100000 in
set_option maxHeartbeats 1000000 in
theorem sof_core (sec H L C P : ByteArray) (a : Nat) (W : World) (hT : Tab W) (h : sec.size = 32) (hH : sgH sec = H) (hL : H.extract 0 32 = L) (hP : H.extract 32 64 = P) (hC : (⟨(clampL L.data.toList).toArray⟩ : ByteArray) = C) (ha : bytesNat C.data.toList % ordL = a) :
    Calls Tryd.prog 9 #[.string sec] W fun r w' => r = .returned (.tuple #[.agg (sgr a P), .int .i64 0]) ∧ Below W.heap.size W w' := by
  have zH : H.size = 64 := hH ▸ sgH_size sec
  have zL : L.size = 32 := by rw [← hL, ByteArray.size_extract, zH]; rfl
  have zC : C.size = 32 := by
    rw [← hC]
    show (clampL L.data.toList).toArray.size = 32
    unfold clampL
    simp [zL]
  have hn : ((sec.size : Int) != 32) = false := by rw [bne_eq_false_iff_eq]; omega
  have H1 : ∀ w b, Tab w → Strs w b [sec] → Calls Tryd.prog 23 #[.slice (some ⟨b, 0, none⟩) 1 1] w fun e w' => e = .returned (.string H) ∧ Below w.heap.size w w' := fun w b h1 h2 => by
    have h3 := sha_strs [sec] b 1 w h1 h2 (by rw [cat1]; have : sec.data.toList.length = 32 := by simpa using h
                                              omega) (show 1 ≤ 9223372036854775807 by decide)
    rw [cat1] at h3
    rw [← hH]
    exact h3
  have H1 := hid H1
  have C1 := hid (fun w => hC ▸ Clamp_32 L w zL)
  have O1 := hid (fun w => ha ▸ oOf_32 C w zC)
  have HT := hid hT
  clear hT hH hC ha h
  go_enter Tryd.func9, Tryd.ntmps9
  go_upto_region 1 with (fail)
  obtain ⟨w1, hw1⟩ : ∃ w1, W.alloc (.cells (sgr 0 ⟨#[]⟩) 39) = w1 := ⟨_, rfl⟩
  have kR := kept (show hget w1 (W.heap.size) = some (.cells (sgr 0 ⟨#[]⟩) 39 (0, 0)) by rw [← hw1]; clear hw1; go_simp)
  have b1 : Hid (Below W.heap.size W w1) := by rw [← hw1]; repeat (first | exact Below.refl _ _ | exact below_new _ | assumption | refine Below.drew ?_ | refine Below.drewN ?_ _ | refine below_alloc ?_ _ | refine below_blk' ?_ (by omega) _)
  rw [hw1]
  clear hw1
  try clear gR lR nR mR
  try clear jR
  have jR := kR.later
  obtain ⟨gR, lR, nR, mR⟩ := kR
  have T1 := hid (HT.out.keep b1.out)
  go_wp2_with fail
  refine (H1.out (w1.alloc (.cells #[.string sec] 9)) _ (T1.out.keep (below_new _)) ⟨_, _, alloc_at _ _⟩).mono ?_
  rintro e w2 ⟨rfl, hb2⟩
  simp only []
  have k2 := keepB hb2 (keepB (below_new (.cells #[.string sec] 9)) gR)
  have b2 := hid (below_to b1.out (below_to (below_new _) hb2))
  clear hb2 gR lR nR mR jR
  obtain ⟨gR, lR, nR, mR⟩ := kept (show hget w2 (W.heap.size) = some (.cells (sgr 0 ⟨#[]⟩) 39 (0, 0)) by first | assumption | go_simp)
  clear k2
  go_wp2_with fail
  try clear jR
  refine (C1.out _).mono ?_
  rintro e w3 ⟨rfl, hb3⟩
  have kR := Kept.on (kept (b := W.heap.size) (o := .cells (sgr 0 ⟨#[]⟩) 39 (0, 0)) (by go_simp)) hb3
  have b3 : Hid (Below W.heap.size W w3) := below_to (by repeat (first | exact Below.refl _ _ | exact below_new _ | exact b2.out | assumption | refine Below.drew ?_ | refine Below.drewN ?_ _ | refine below_alloc ?_ _ | refine below_blk' ?_ (by omega) _)) hb3
  clear hb3
  try clear gR lR nR mR
  obtain ⟨gR, lR, nR, mR⟩ := kR
  clear b2
  go_wp2_with fail
  try clear jR
  refine (O1.out _).mono ?_
  rintro e w4 ⟨rfl, hb4⟩
  have kR := Kept.on (kept (b := W.heap.size) (o := .cells (sgr 0 ⟨#[]⟩) 39 (0, 0)) (by go_simp)) hb4
  have b4 : Hid (Below W.heap.size W w4) := below_to (by repeat (first | exact Below.refl _ _ | exact below_new _ | exact b3.out | assumption | refine Below.drew ?_ | refine Below.drewN ?_ _ | refine below_alloc ?_ _ | refine below_blk' ?_ (by omega) _)) hb4
  clear hb4
  try clear gR lR nR mR
  obtain ⟨gR, lR, nR, mR⟩ := kR
  clear b3
  go_upto_region 6 with (fail)
  obtain ⟨A, hA⟩ : ∃ b, w4.heap.size = b := ⟨_, rfl⟩
  have wA : W.heap.size ≤ A := by rw [← hA]; exact b4.out.size
  have eRA : (W.heap.size = A) = False := by rw [← hA]; exact nR
  have eAR : (A = W.heap.size) = False := by rw [← hA]; exact mR
  obtain ⟨w5, hw5⟩ : ∃ w5, w4.alloc (.cells (quad a) 37) = w5 := ⟨_, rfl⟩
  have kR := kept (show hget w5 (W.heap.size) = some (.cells (sgr 0 ⟨#[]⟩) 39 (0, 0)) by rw [← hw5]; clear hw5; go_simp)
  have kA := kept (show hget w5 (w4.heap.size) = some (.cells (quad a) 37) by rw [← hw5]; clear hw5; go_simp)
  have b5 : Hid (Below W.heap.size W w5) := by rw [← hw5]; repeat (first | exact Below.refl _ _ | exact below_new _ | exact b4.out | assumption | refine Below.drew ?_ | refine Below.drewN ?_ _ | refine below_alloc ?_ _ | refine below_blk' ?_ (by omega) _)
  rw [hw5]
  clear hw5
  try clear gR lR nR mR
  try clear jR
  have jR := kR.later
  obtain ⟨gR, lR, nR, mR⟩ := kR
  try clear gA lA nA mA
  try clear jA
  have jA := kA.later
  obtain ⟨gA, lA, nA, mA⟩ := kA
  clear b4
  rw [hA] at *
  clear hA
  refine wp_region_later_tail 4 (by kernel_rfl) (by kernel_rfl) ?_
  simp only [List.take_succ_cons, List.take_zero, List.drop_succ_cons, List.drop_zero]
  repeat ((go_big_quiet_step ((fail))))
  refine wpQuiet_nil ?_
  intro wL hwL
  obtain ⟨⟨w8, hL⟩, e8⟩ := hwL
  change wL = w8 at e8
  subst e8
  obtain ⟨gR, lR, nR, mR⟩ := kept (jR ⟨_, hL⟩)
  go_wp2_with fail
  refine bodyPost_ret (v := .tuple #[.agg (sgr a P), .int .i64 0]) (results_cell_tmp Tryd.results9 _ _ (W.heap.size) 39 (sgr a P) (0, 0) _ (.int .i64 0) (by rfl) (by rfl) (by rw [← hget_eq]; go_simp) Tryd.underlying39 rfl (by rw [info_Sg]; go_simp)) rfl ?_
  exact ⟨rfl, below_blk' (below_to b5.out hL) (by omega) _⟩
set_option maxRecDepth 100000 in
theorem ba_list (l : List UInt8) : (⟨l.toArray⟩ : ByteArray).data.toList = l := rfl
set_option maxRecDepth 100000 in
theorem sof_yes (sec : ByteArray) (W : World) (hT : Tab W) (h : sec.size = 32) : Calls Tryd.prog 9 #[.string sec] W fun r w' => r = .returned (.tuple #[.agg (sgr (sgA sec) (sgPre sec)), .int .i64 0]) ∧ Below W.heap.size W w' := by
  have e3 : bytesNat (⟨(clampL (sgL sec).data.toList).toArray⟩ : ByteArray).data.toList % ordL = sgA sec := by
    rw [ba_list]
    unfold sgA ck
    with_reducible rfl
  have e1 : (sgH sec).extract 0 32 = sgL sec := by unfold sgL; with_reducible rfl
  have e2 : (sgH sec).extract 32 64 = sgPre sec := by unfold sgPre; with_reducible rfl
  exact sof_core sec (sgH sec) (sgL sec) ⟨(clampL (sgL sec).data.toList).toArray⟩ (sgPre sec) (sgA sec) W hT h rfl e1 e2 rfl e3
set_option maxRecDepth 100000 in
set_option maxHeartbeats 1000000 in
theorem spub_any (a : Nat) (pre : ByteArray) (W : World) (ha : a < ordL) : Calls Tryd.prog 10 #[.agg (sgr a pre)] W fun r w' => r = .returned (.string (ptB (Pt.mul a bP))) ∧ Below W.heap.size W w' := by
  have M1 := fun w => stimes_any a w ha
  have Y1 : ∀ w, Calls Tryd.prog 13 #[pv (bm a)] w fun r w' => r = .returned (.string (ptB (Pt.mul a bP))) ∧ Below w.heap.size w w' := fun w => by
    have h := pbytes_v (bm a) w (bm_ok ha).bd
    rw [show (bm a).bytes = ptB (Pt.mul a bP) from P4.ok_bytes (bm_ok ha)] at h
    exact h
  generalize ptB (Pt.mul a bP) = S at *
  generalize bm a = q at *
  have M1 := hid M1
  have Y1 := hid Y1
  go_enter Tryd.func10, Tryd.ntmps10
  go_upto_region 1 with (fail)
  obtain ⟨w1, hw1⟩ : ∃ w1, W.alloc (.cells (sgr a pre) 39) = w1 := ⟨_, rfl⟩
  have kR := kept (show hget w1 (W.heap.size) = some (.cells (sgr a pre) 39 (0, 0)) by rw [← hw1]; clear hw1; go_simp)
  have b1 : Hid (Below W.heap.size W w1) := by rw [← hw1]; repeat (first | exact Below.refl _ _ | exact below_new _ | assumption | refine Below.drew ?_ | refine Below.drewN ?_ _ | refine below_alloc ?_ _ | refine below_blk' ?_ (by omega) _)
  rw [hw1]
  clear hw1
  try clear gR lR nR mR
  try clear jR
  have jR := kR.later
  obtain ⟨gR, lR, nR, mR⟩ := kR
  go_wp2_with fail
  try clear jR
  refine (M1.out _).mono ?_
  rintro e w2 ⟨rfl, hb2⟩
  have kR := Kept.on (kept (b := W.heap.size) (o := .cells (sgr a pre) 39 (0, 0)) (by go_simp)) hb2
  have b2 : Hid (Below W.heap.size W w2) := below_to (by repeat (first | exact Below.refl _ _ | exact below_new _ | exact b1.out | assumption | refine Below.drew ?_ | refine Below.drewN ?_ _ | refine below_alloc ?_ _ | refine below_blk' ?_ (by omega) _)) hb2
  clear hb2
  try clear gR lR nR mR
  obtain ⟨gR, lR, nR, mR⟩ := kR
  clear b1
  go_wp2_with fail
  try clear jR
  refine (Y1.out _).mono ?_
  rintro e w3 ⟨rfl, hb3⟩
  have kR := Kept.on (kept (b := W.heap.size) (o := .cells (sgr a pre) 39 (0, 0)) (by go_simp)) hb3
  have b3 : Hid (Below W.heap.size W w3) := below_to (by repeat (first | exact Below.refl _ _ | exact below_new _ | exact b2.out | assumption | refine Below.drew ?_ | refine Below.drewN ?_ _ | refine below_alloc ?_ _ | refine below_blk' ?_ (by omega) _)) hb3
  clear hb3
  try clear gR lR nR mR
  obtain ⟨gR, lR, nR, mR⟩ := kR
  clear b2
  go_wp2_with fail
  go_ret
  exact ⟨rfl, b3.out⟩

/-- A secret's public key: the text, and the error. -/
def spS (sec : ByteArray) : ByteArray := if sec.size = 32 then pubB sec else ⟨#[]⟩
def spE (sec : ByteArray) : Int := if sec.size = 32 then 0 else 2
set_option maxRecDepth 100000 in
set_option maxHeartbeats 1000000 in
theorem spublic_any (sec : ByteArray) (W : World) (hT : Tab W) : Calls Tryd.prog 5 #[.string sec] W fun r w' => r = .returned (.tuple #[.string (spS sec), .int .i64 (spE sec)]) ∧ Below W.heap.size W w' := by
  unfold spS spE
  by_cases h : sec.size = 32
  · rw [if_pos h, if_pos h]
    have F1 := hid (sof_yes sec W hT h)
    have U1 := hid (fun w => spub_any (sgA sec) (sgPre sec) w (sgA_lt sec))
    rw [show ptB (Pt.mul (sgA sec) bP) = pubB sec from rfl] at U1
    generalize sgA sec = a at *
    generalize sgPre sec = p at *
    generalize pubB sec = S at *
    clear hT h
    go_enter Tryd.func5, Tryd.ntmps5
    go_wp2_with fail
    refine F1.out.mono ?_
    rintro e w1 ⟨rfl, hb1⟩
    have b1 := hid hb1
    clear hb1
    go_upto_region 2 with (fail)
    skip
    obtain ⟨A, hA⟩ : ∃ b, w1.heap.size = b := ⟨_, rfl⟩
    have wA : W.heap.size ≤ A := by rw [← hA]; exact b1.out.size
    obtain ⟨w2, hw2⟩ : ∃ w2, w1.alloc (.cells (sgr a p) 39) = w2 := ⟨_, rfl⟩
    have kA := kept (show hget w2 (w1.heap.size) = some (.cells (sgr a p) 39) by rw [← hw2]; clear hw2; go_simp)
    have b2 : Hid (Below W.heap.size W w2) := by rw [← hw2]; repeat (first | exact Below.refl _ _ | exact below_new _ | exact b1.out | assumption | refine Below.drew ?_ | refine Below.drewN ?_ _ | refine below_alloc ?_ _ | refine below_blk' ?_ (by omega) _)
    rw [hw2]
    clear hw2
    try clear gA lA nA mA
    try clear jA
    have jA := kA.later
    obtain ⟨gA, lA, nA, mA⟩ := kA
    clear b1
    rw [hA] at *
    clear hA
    go_wp2_with fail
    try clear jA
    refine (U1.out _).mono ?_
    rintro e w3 ⟨rfl, hb3⟩
    have kA := Kept.on (kept (b := A) (o := .cells (sgr a p) 39 (0, 0)) (by go_simp)) hb3
    have b3 : Hid (Below W.heap.size W w3) := below_to (by repeat (first | exact Below.refl _ _ | exact below_new _ | exact b2.out | assumption | refine Below.drew ?_ | refine Below.drewN ?_ _ | refine below_alloc ?_ _ | refine below_blk' ?_ (by omega) _)) hb3
    clear hb3
    try clear gA lA nA mA
    obtain ⟨gA, lA, nA, mA⟩ := kA
    clear b2
    go_wp2_with fail
    go_ret2
    exact ⟨rfl, b3.out⟩
  · rw [if_neg h, if_neg h]
    have F1 := hid (sof_no sec W h)
    clear hT h
    go_enter Tryd.func5, Tryd.ntmps5
    go_wp2_with fail
    refine F1.out.mono ?_
    rintro e w1 ⟨rfl, hb1⟩
    have b1 := hid hb1
    clear hb1
    go_upto_region 2 with (fail)
    skip
    obtain ⟨A, hA⟩ : ∃ b, w1.heap.size = b := ⟨_, rfl⟩
    have wA : W.heap.size ≤ A := by rw [← hA]; exact b1.out.size
    obtain ⟨w2, hw2⟩ : ∃ w2, w1.alloc (.cells (sgr 0 ⟨#[]⟩) 39) = w2 := ⟨_, rfl⟩
    have kA := kept (show hget w2 (w1.heap.size) = some (.cells (sgr 0 ⟨#[]⟩) 39) by rw [← hw2]; clear hw2; go_simp)
    have b2 : Hid (Below W.heap.size W w2) := by rw [← hw2]; repeat (first | exact Below.refl _ _ | exact below_new _ | exact b1.out | assumption | refine Below.drew ?_ | refine Below.drewN ?_ _ | refine below_alloc ?_ _ | refine below_blk' ?_ (by omega) _)
    rw [hw2]
    clear hw2
    try clear gA lA nA mA
    try clear jA
    have jA := kA.later
    obtain ⟨gA, lA, nA, mA⟩ := kA
    clear b1
    rw [hA] at *
    clear hA
    go_wp2_with fail
    go_ret2
    exact ⟨rfl, b2.out⟩

/-- A signature: the text, and the error. -/
def siS (sec s : ByteArray) : ByteArray := if sec.size = 32 then sigB sec s else ⟨#[]⟩
set_option maxRecDepth 100000 in
theorem ssign_no (sec s : ByteArray) (W : World) (h : sec.size ≠ 32) : Calls Tryd.prog 6 #[.string sec, .string s] W fun r w' => r = .returned (.tuple #[.string ⟨#[]⟩, .int .i64 2]) ∧ Below W.heap.size W w' := by
  have F1 := hid (sof_no sec W h)
  clear h
  go_enter Tryd.func6, Tryd.ntmps6
  go_wp2_with fail
  refine F1.out.mono ?_
  rintro e w1 ⟨rfl, hb1⟩
  have b1 := hid hb1
  clear hb1
  go_upto_region 2 with (fail)
  skip
  obtain ⟨A, hA⟩ : ∃ b, w1.heap.size = b := ⟨_, rfl⟩
  have wA : W.heap.size ≤ A := by rw [← hA]; exact b1.out.size
  obtain ⟨w2, hw2⟩ : ∃ w2, w1.alloc (.cells (sgr 0 ⟨#[]⟩) 39) = w2 := ⟨_, rfl⟩
  have kA := kept (show hget w2 (w1.heap.size) = some (.cells (sgr 0 ⟨#[]⟩) 39) by rw [← hw2]; clear hw2; go_simp)
  have b2 : Hid (Below W.heap.size W w2) := by rw [← hw2]; repeat (first | exact Below.refl _ _ | exact below_new _ | exact b1.out | assumption | refine Below.drew ?_ | refine Below.drewN ?_ _ | refine below_alloc ?_ _ | refine below_blk' ?_ (by omega) _)
  rw [hw2]
  clear hw2
  try clear gA lA nA mA
  try clear jA
  have jA := kA.later
  obtain ⟨gA, lA, nA, mA⟩ := kA
  clear b1
  rw [hA] at *
  clear hA
  go_wp2_with fail
  go_ret2
  exact ⟨rfl, b2.out⟩
set_option maxRecDepth 100000 in
set_option maxHeartbeats 2000000 in
theorem ssign_core (sec s P Q U N : ByteArray) (a r k n : Nat) (W : World) (hT : Tab W) (h : sec.size = 32) (hs : s.size ≤ 1099511627776) (ha : sgA sec = a) (hP : sgPre sec = P) (hr : sgR sec s = r) (hQ : sgQ sec s = Q) (hU : pubB sec = U) (hk : sgK sec s = k) (hn : sgS sec s = n) (hN : n32B n = N) :
    Calls Tryd.prog 6 #[.string sec, .string s] W fun r w' => r = .returned (.tuple #[.string (Q ++ N), .int .i64 0]) ∧ Below W.heap.size W w' := by
  have la : a < ordL := ha ▸ sgA_lt sec
  have lr : r < ordL := hr ▸ redN_lt _
  have lk : k < ordL := hk ▸ redN_lt _
  have zQ : Q.size = 32 := hQ ▸ sgQ_size sec s
  have zU : U.size = 32 := hU ▸ pubB_size sec
  have zP : P.size = 32 := hP ▸ sgPre_size sec
  have zN : N.size = 32 := hN ▸ n32B_size n
  have hsl : s.data.toList.length = s.size := by simp
  have F1 := sof_yes sec W hT h
  rw [ha, hP] at F1
  have F1 := hid F1
  have D1 : ∀ w b, Tab w → Strs w b [P, s] → Calls Tryd.prog 11 #[.slice (some ⟨b, 0, none⟩) 2 2] w fun e w' => e = .returned (.agg (quad r)) ∧ Below w.heap.size w w' := fun w b h1 h2 => by
    have h3 := sred_any [P, s] b 2 w h1 h2 (by rw [cat2, List.length_append, hsl]; have : P.data.toList.length = 32 := by simpa using zP
                                               omega) (show 2 ≤ 9223372036854775807 by decide)
    rw [cat2, ← hP, show redN ((sgPre sec).data.toList ++ s.data.toList) = sgR sec s from rfl, hr] at h3
    exact h3
  have D1 := hid D1
  have D2 : ∀ w b, Tab w → Strs w b [Q, U, s] → Calls Tryd.prog 11 #[.slice (some ⟨b, 0, none⟩) 3 3] w fun e w' => e = .returned (.agg (quad k)) ∧ Below w.heap.size w w' := fun w b h1 h2 => by
    have h3 := sred_any [Q, U, s] b 3 w h1 h2 (by rw [cat3, List.length_append, List.length_append, hsl]
                                                  have h4 : Q.data.toList.length = 32 := by simpa using zQ
                                                  have h5 : U.data.toList.length = 32 := by simpa using zU
                                                  omega) (show 3 ≤ 9223372036854775807 by decide)
    rw [cat3, ← hQ, ← hU, show redN ((sgQ sec s).data.toList ++ ((pubB sec).data.toList ++ s.data.toList)) = sgK sec s from rfl, hk] at h3
    exact h3
  have D2 := hid D2
  have M1 := fun w => stimes_any r w lr
  have Y1 : ∀ w, Calls Tryd.prog 13 #[pv (bm r)] w fun r w' => r = .returned (.string Q) ∧ Below w.heap.size w w' := fun w => by
    have h := pbytes_v (bm r) w (bm_ok lr).bd
    rw [show (bm r).bytes = ptB (Pt.mul r bP) from P4.ok_bytes (bm_ok lr), ← hr, show ptB (Pt.mul (sgR sec s) bP) = sgQ sec s from rfl, hQ] at h
    rw [← hr]
    exact h
  generalize bm r = q at *
  have M1 := hid M1
  have Y1 := hid Y1
  have U1 := fun w => spub_any a P w la
  rw [show ptB (Pt.mul a bP) = U by rw [← hU, ← ha]; rfl] at U1
  have U1 := hid U1
  have A1 := fun w => MulAdd_any k a r w lk la lr
  rw [show (k * a + r) % ordL = n by rw [← hn, ← hk, ← ha, ← hr]; rfl] at A1
  have A1 := hid A1
  have B1 : Hid (∀ w, Calls Tryd.prog 15 #[.agg (quad n)] w fun e w' => e = .returned (.string N) ∧ Below w.heap.size w w') := hid (fun w => by
    have h := Bytes_any n w (Nat.lt_trans (hn ▸ sgS_lt sec s) (by decide))
    rw [show (⟨(natBytes n 32).toArray⟩ : ByteArray) = N from hN] at h
    exact h)
  have HT := hid hT
  clear hT h ha hP hr hQ hU hk hn hN la lr lk hsl
  go_enter Tryd.func6, Tryd.ntmps6
  go_wp2_with fail
  refine F1.out.mono ?_
  rintro e w1 ⟨rfl, hb1⟩
  have b1 := hid hb1
  clear hb1
  go_upto_region 2 with (fail)
  skip
  obtain ⟨G, hG⟩ : ∃ b, w1.heap.size = b := ⟨_, rfl⟩
  have wG : W.heap.size ≤ G := by rw [← hG]; exact b1.out.size
  obtain ⟨w2, hw2⟩ : ∃ w2, w1.alloc (.cells (sgr a P) 39) = w2 := ⟨_, rfl⟩
  have kG := kept (show hget w2 (w1.heap.size) = some (.cells (sgr a P) 39) by rw [← hw2]; clear hw2; go_simp)
  have b2 : Hid (Below W.heap.size W w2) := by rw [← hw2]; repeat (first | exact Below.refl _ _ | exact below_new _ | exact b1.out | assumption | refine Below.drew ?_ | refine Below.drewN ?_ _ | refine below_alloc ?_ _ | refine below_blk' ?_ (by omega) _)
  rw [hw2]
  clear hw2
  try clear gG lG nG mG
  try clear jG
  have jG := kG.later
  obtain ⟨gG, lG, nG, mG⟩ := kG
  clear b1
  rw [hG] at *
  clear hG
  have cG : w2.cell? ⟨G, 4, none⟩ = some (.string P) := by rw [cell_at (show w2.heap[G]? = _ from gG)]; exact sgr_pre a P
  go_wp2_with fail
  have T2 := hid ((HT.out.keep b2.out).keep (below_new (.cells #[.string P, .string s] 9)))
  refine (D1.out (w2.alloc (.cells #[.string P, .string s] 9)) _ T2.out ⟨_, _, alloc_at _ _⟩).mono ?_
  rintro e w3 ⟨rfl, hb3⟩
  simp only []
  have k3 := keepB hb3 (keepB (below_new (.cells #[.string P, .string s] 9)) gG)
  have b3 := hid (below_to b2.out (below_to (below_new _) hb3))
  clear hb3 gG lG nG mG jG cG T2 D1
  go_upto_region 5 with (fail)
  obtain ⟨gG, lG, nG, mG⟩ := kept (show hget w3 (G) = some (.cells (sgr a P) 39 (0, 0)) by first | assumption | go_simp)
  clear k3
  obtain ⟨R, hR⟩ : ∃ b, w3.heap.size = b := ⟨_, rfl⟩
  have wR : W.heap.size ≤ R := by rw [← hR]; exact b3.out.size
  have eGR : (G = R) = False := by rw [← hR]; exact nG
  have eRG : (R = G) = False := by rw [← hR]; exact mG
  obtain ⟨w4, hw4⟩ : ∃ w4, w3.alloc (.cells (quad r) 37) = w4 := ⟨_, rfl⟩
  have kG := kept (show hget w4 (G) = some (.cells (sgr a P) 39 (0, 0)) by rw [← hw4]; clear hw4; go_simp)
  have kR := kept (show hget w4 (w3.heap.size) = some (.cells (quad r) 37) by rw [← hw4]; clear hw4; go_simp)
  have b4 : Hid (Below W.heap.size W w4) := by rw [← hw4]; repeat (first | exact Below.refl _ _ | exact below_new _ | exact b3.out | assumption | refine Below.drew ?_ | refine Below.drewN ?_ _ | refine below_alloc ?_ _ | refine below_blk' ?_ (by omega) _)
  rw [hw4]
  clear hw4
  try clear gG lG nG mG
  try clear jG
  have jG := kG.later
  obtain ⟨gG, lG, nG, mG⟩ := kG
  try clear gR lR nR mR
  try clear jR
  have jR := kR.later
  obtain ⟨gR, lR, nR, mR⟩ := kR
  clear b3
  rw [hR] at *
  clear hR
  go_wp2_with fail
  try clear jG jR
  refine (M1.out _).mono ?_
  rintro e w5 ⟨rfl, hb5⟩
  have kG := Kept.on (kept (b := G) (o := .cells (sgr a P) 39 (0, 0)) (by go_simp)) hb5
  have kR := Kept.on (kept (b := R) (o := .cells (quad r) 37 (0, 0)) (by go_simp)) hb5
  have b5 : Hid (Below W.heap.size W w5) := below_to (by repeat (first | exact Below.refl _ _ | exact below_new _ | exact b4.out | assumption | refine Below.drew ?_ | refine Below.drewN ?_ _ | refine below_alloc ?_ _ | refine below_blk' ?_ (by omega) _)) hb5
  clear hb5
  try clear gG lG nG mG
  obtain ⟨gG, lG, nG, mG⟩ := kG
  try clear gR lR nR mR
  obtain ⟨gR, lR, nR, mR⟩ := kR
  clear b4
  go_wp2_with fail
  try clear jG jR
  refine (Y1.out _).mono ?_
  rintro e w6 ⟨rfl, hb6⟩
  have kG := Kept.on (kept (b := G) (o := .cells (sgr a P) 39 (0, 0)) (by go_simp)) hb6
  have kR := Kept.on (kept (b := R) (o := .cells (quad r) 37 (0, 0)) (by go_simp)) hb6
  have b6 : Hid (Below W.heap.size W w6) := below_to (by repeat (first | exact Below.refl _ _ | exact below_new _ | exact b5.out | assumption | refine Below.drew ?_ | refine Below.drewN ?_ _ | refine below_alloc ?_ _ | refine below_blk' ?_ (by omega) _)) hb6
  clear hb6
  try clear gG lG nG mG
  obtain ⟨gG, lG, nG, mG⟩ := kG
  try clear gR lR nR mR
  obtain ⟨gR, lR, nR, mR⟩ := kR
  clear b5
  go_upto_region 6 with (fail)
  clear M1 Y1
  have hT6 := HT.out.keep b6.out
  have jG := Kept.later (kept gG)
  have jR := Kept.later (kept gR)
  refine wp_region_gho [5] (fun _ u w => ∃ b, u = .slice (some ⟨b, 0, none⟩) 3 3 ∧ w.heap[b]? = some (.cells #[.string Q, .string U, .string s] 9 (0, 0))) (by kernel_rfl) (by kernel_rfl) (by kernel_rfl) (fun _ u w w' ⟨b, h1, h2⟩ hb => ⟨b, h1, keepB hb h2⟩) ?_
  repeat (first | (refine wpGho_plain (by kernel_rfl) (by decide) (by rfl) (by rfl) (fun K hK => ?_); go_simp; refine hK _ ?_; clear hK K; try go_ints) | (refine wpGho_plain (by kernel_rfl) (by decide) (by rfl) (by rfl) (fun K hK => ?_); go_simp; refine ⟨_, fun x => U1.out _, hK _ ?_⟩; clear hK K; try go_ints))
  refine wpGho_make (by kernel_rfl) (by decide) (by rfl) (by rfl) (by rfl) (fun K hK => ?_)
  go_simp
  refine ⟨fun x => ⟨below_new _, _, rfl, alloc_at _ _⟩, hK _ ?_⟩
  clear hK K
  refine wpGho_read (by decide) (by rfl) (fun K hK => ?_)
  refine ⟨.agg (quad k), fun g x hR => ?_, hK _ ?_⟩
  · obtain ⟨b8, hb8, hc8⟩ := hR 5 (by decide) (by kernel_rfl)
    rw [show ∀ a, over _ [5] g a = Act.put a (some 31) (g 5) from fun _ => rfl, hb8]
    have C1 := D2.out x.w' b8 (hT6.keep x.h) ⟨_, _, hc8⟩
    clear hR
    go_simp
    done
  clear hK K
  simp only [Act.put, List.setIfInBounds_toArray, List.set_cons_zero, List.set_cons_succ]
  repeat (first | (refine wpGho_plain (by kernel_rfl) (by decide) (by rfl) (by rfl) (fun K hK => ?_); go_simp; refine hK _ ?_; clear hK K; try go_ints) | (refine wpGho_plain (by kernel_rfl) (by decide) (by rfl) (by rfl) (fun K hK => ?_); go_simp; refine ⟨_, fun x => A1.out _, hK _ ?_⟩; clear hK K; try go_ints) | (refine wpGho_plain (by kernel_rfl) (by decide) (by rfl) (by rfl) (fun K hK => ?_); go_simp; refine ⟨_, fun x => B1.out _, hK _ ?_⟩; clear hK K; try go_ints))
  refine wpGho_nil ?_
  intro g wM hwM hR
  obtain ⟨⟨w9, hM⟩, e9⟩ := hwM
  change wM = w9 at e9
  subst e9
  obtain ⟨b8, hb8, _⟩ := hR 5 (by decide)
  rw [show ∀ a, over _ [5] g a = Act.put a (some 31) (g 5) from fun _ => rfl, hb8]
  simp only [Act.put, List.setIfInBounds_toArray, List.set_cons_zero, List.set_cons_succ]
  clear hR hb8
  go_wp2_with fail
  go_ret2
  exact ⟨rfl, below_to b6.out hM⟩
set_option maxRecDepth 100000 in
theorem ssign_any (sec s : ByteArray) (W : World) (hT : Tab W) (hs : s.size ≤ 1099511627776) : Calls Tryd.prog 6 #[.string sec, .string s] W fun r w' => r = .returned (.tuple #[.string (siS sec s), .int .i64 (spE sec)]) ∧ Below W.heap.size W w' := by
  unfold siS spE
  by_cases h : sec.size = 32
  · rw [if_pos h, if_pos h]
    unfold sigB
    exact ssign_core sec s (sgPre sec) (sgQ sec s) (pubB sec) (n32B (sgS sec s)) (sgA sec) (sgR sec s) (sgK sec s) (sgS sec s) W hT h hs rfl rfl rfl rfl rfl rfl rfl rfl
  · rw [if_neg h, if_neg h]
    exact ssign_no sec s W h

end Go.Proofs.YtceljjnohjnepaaDoor

namespace Go.Proofs.YtceljjnohjnepaaDoor
open Go Go.RowKit DG EG
attribute [local go_sem ↓] exl_Sc exs_Sc exb_Sc exl_Sg exs_Sg exb_Sg exl_Pt exs_Pt
                       attribute [local go_sem] ldm_Sc str_Sc bld_sc0 ldr_Sg str_Sg bld_sg bld_sg0 to_quad0 sg_zero ldr_Pt str_Pt pt_zero

set_option maxRecDepth 100000 in
theorem few_v (a : P4) (W : World) (h : a.bd) : Calls Tryd.prog 17 #[pv a] W fun r w' => r = .returned (.bool (a.twice.twice.twice.same P4.zero)) ∧ Below W.heap.size W w' := by
  have b1 := P4.twice_bd h
  have b2 := P4.twice_bd b1
  have b3 := P4.twice_bd b2
  have T1 := fun w => ptwice_v a w h
  have T2 := fun w => ptwice_v a.twice w b1
  have T3 := fun w => ptwice_v a.twice.twice w b2
  have Z1 := hid (fun w => pzero_any w)
  have S1 := fun w => psame_v a.twice.twice.twice P4.zero w b3 P4.zero_ok.bd
  generalize a.twice.twice.twice.same P4.zero = V at *
  generalize a.twice.twice.twice = d at *
  generalize a.twice.twice = c at *
  generalize a.twice = b at *
  generalize P4.zero = z at *
  have T1 := hid T1
  have T2 := hid T2
  have T3 := hid T3
  have S1 := hid S1
  clear h b1 b2 b3
  go_enter Tryd.func17, Tryd.ntmps17
  go_upto_region 1 with (fail)
  obtain ⟨w1, hw1⟩ : ∃ w1, W.alloc (.cells (pt a.x a.y a.z a.t true) 46) = w1 := ⟨_, rfl⟩
  have kR := kept (show hget w1 (W.heap.size) = some (.cells (pt a.x a.y a.z a.t true) 46 (0, 0)) by rw [← hw1]; clear hw1; go_simp)
  have b1 : Hid (Below W.heap.size W w1) := by rw [← hw1]; repeat (first | exact Below.refl _ _ | exact below_new _ | assumption | refine Below.drew ?_ | refine Below.drewN ?_ _ | refine below_alloc ?_ _ | refine below_blk' ?_ (by omega) _)
  rw [hw1]
  clear hw1
  try clear gR lR nR mR
  try clear jR
  have jR := kR.later
  obtain ⟨gR, lR, nR, mR⟩ := kR
  go_wp2_with fail
  try clear jR
  refine (T1.out _).mono ?_
  rintro e w2 ⟨rfl, hb2⟩
  have kR := Kept.on (kept (b := W.heap.size) (o := .cells (pt a.x a.y a.z a.t true) 46 (0, 0)) (by go_simp)) hb2
  have b2 : Hid (Below W.heap.size W w2) := below_to (by repeat (first | exact Below.refl _ _ | exact below_new _ | exact b1.out | assumption | refine Below.drew ?_ | refine Below.drewN ?_ _ | refine below_alloc ?_ _ | refine below_blk' ?_ (by omega) _)) hb2
  clear hb2
  try clear gR lR nR mR
  obtain ⟨gR, lR, nR, mR⟩ := kR
  clear b1
  go_wp2_with fail
  try clear jR
  refine (T2.out _).mono ?_
  rintro e w3 ⟨rfl, hb3⟩
  have kR := Kept.on (kept (b := W.heap.size) (o := .cells (pt a.x a.y a.z a.t true) 46 (0, 0)) (by go_simp)) hb3
  have b3 : Hid (Below W.heap.size W w3) := below_to (by repeat (first | exact Below.refl _ _ | exact below_new _ | exact b2.out | assumption | refine Below.drew ?_ | refine Below.drewN ?_ _ | refine below_alloc ?_ _ | refine below_blk' ?_ (by omega) _)) hb3
  clear hb3
  try clear gR lR nR mR
  obtain ⟨gR, lR, nR, mR⟩ := kR
  clear b2
  go_wp2_with fail
  try clear jR
  refine (T3.out _).mono ?_
  rintro e w4 ⟨rfl, hb4⟩
  have kR := Kept.on (kept (b := W.heap.size) (o := .cells (pt a.x a.y a.z a.t true) 46 (0, 0)) (by go_simp)) hb4
  have b4 : Hid (Below W.heap.size W w4) := below_to (by repeat (first | exact Below.refl _ _ | exact below_new _ | exact b3.out | assumption | refine Below.drew ?_ | refine Below.drewN ?_ _ | refine below_alloc ?_ _ | refine below_blk' ?_ (by omega) _)) hb4
  clear hb4
  try clear gR lR nR mR
  obtain ⟨gR, lR, nR, mR⟩ := kR
  clear b3
  go_wp2_with fail
  try clear jR
  refine (Z1.out _).mono ?_
  rintro e w5 ⟨rfl, hb5⟩
  have kR := Kept.on (kept (b := W.heap.size) (o := .cells (pt a.x a.y a.z a.t true) 46 (0, 0)) (by go_simp)) hb5
  have b5 : Hid (Below W.heap.size W w5) := below_to (by repeat (first | exact Below.refl _ _ | exact below_new _ | exact b4.out | assumption | refine Below.drew ?_ | refine Below.drewN ?_ _ | refine below_alloc ?_ _ | refine below_blk' ?_ (by omega) _)) hb5
  clear hb5
  try clear gR lR nR mR
  obtain ⟨gR, lR, nR, mR⟩ := kR
  clear b4
  go_wp2_with fail
  try clear jR
  refine (S1.out _).mono ?_
  rintro e w6 ⟨rfl, hb6⟩
  have kR := Kept.on (kept (b := W.heap.size) (o := .cells (pt a.x a.y a.z a.t true) 46 (0, 0)) (by go_simp)) hb6
  have b6 : Hid (Below W.heap.size W w6) := below_to (by repeat (first | exact Below.refl _ _ | exact below_new _ | exact b5.out | assumption | refine Below.drew ?_ | refine Below.drewN ?_ _ | refine below_alloc ?_ _ | refine below_blk' ?_ (by omega) _)) hb6
  clear hb6
  try clear gR lR nR mR
  obtain ⟨gR, lR, nR, mR⟩ := kR
  clear b5
  go_wp2_with fail
  go_ret
  exact ⟨rfl, b6.out⟩
set_option maxRecDepth 100000 in
theorem few_iff {a : P4} {p : Pt cv} (h : a.ok p) : a.twice.twice.twice.same P4.zero = true ↔ Pt.mul 8 p = Pt.zero := by
  rw [P4.same_iff (P4.twice_ok (P4.twice_ok (P4.twice_ok h))) P4.zero_ok]
  rw [show (8 : Nat) = (2 + 2) + (2 + 2) from rfl, Pt.mul_add, Pt.mul_add, show (2 : Nat) = 1 + 1 from rfl, Pt.mul_add, Pt.mul_one]
set_option maxRecDepth 100000 in
theorem decV_form (s : ByteArray) : ∃ x y z t b c, decV s = .tuple #[.agg (pt x y z t b), .int .i64 c] ∧ (c = 0 ↔ dOk s = true) := by
  unfold decV
  by_cases h : dOk s = true
  · rw [if_pos h]
    exact ⟨_, _, _, _, _, _, rfl, ⟨fun _ => h, fun _ => rfl⟩⟩
  · rw [if_neg h]
    refine ⟨_, _, _, _, _, _, rfl, ⟨fun h0 => ?_, fun h1 => absurd h1 h⟩⟩
    split at h0 <;> exact absurd h0 (by decide)
set_option maxRecDepth 100000 in
theorem sverify_short (pub s sig : ByteArray) (W : World) (h : sig.size ≠ 64) : Calls Tryd.prog 8 #[.string pub, .string s, .string sig] W fun r w' => r = .returned (.bool false) ∧ Below W.heap.size W w' := by
  have hn : ((sig.size : Int) != 64) = true := by rw [bne_iff_ne]; omega
  clear h
  go_enter Tryd.func8, Tryd.ntmps8
  go_wp2_with fail
  go_ret
  exact ⟨rfl, Below.refl _ _⟩
set_option maxRecDepth 100000 in
set_option maxHeartbeats 1000000 in
theorem sverify_bad (pub s sig R S : ByteArray) (x y z t x' y' z' t' : Nat) (b b' : Bool) (c c' : Int) (W : World) (h : sig.size = 64) (hR : sig.extract 0 32 = R) (hS : sig.extract 32 64 = S) (hp : pub.size ≤ 9223372036854775807)
    (h1 : decV pub = .tuple #[.agg (pt x y z t b), .int .i64 c]) (h2 : decV R = .tuple #[.agg (pt x' y' z' t' b'), .int .i64 c']) (hc : c ≠ 0 ∨ c' ≠ 0) :
    Calls Tryd.prog 8 #[.string pub, .string s, .string sig] W fun r w' => r = .returned (.bool false) ∧ Below W.heap.size W w' := by
  have zR : R.size = 32 := by rw [← hR, ByteArray.size_extract, h]; rfl
  have D1 := hid (fun w => h1 ▸ pdecode_v pub w hp)
  have D2 := hid (fun w => h2 ▸ pdecode_v R w (by omega))
  have hn : ((sig.size : Int) != 64) = false := by rw [bne_eq_false_iff_eq]; omega
  clear h1 h2 hp
  go_enter Tryd.func8, Tryd.ntmps8
  go_wp2_with fail
  refine wp_region_later (by kernel_rfl) (by kernel_rfl) ?_
  repeat ((go_big_quiet_step ((fail))))
  refine wpQuiet_nil ?_
  intro wL hwL
  obtain ⟨⟨w8, hL⟩, e8⟩ := hwL
  change wL = w8 at e8
  subst e8
  have b1 := hid hL
  clear hL
  generalize wL = w1 at *
  skip
  go_wp2_with fail
  skip
  refine (D1.out _).mono ?_
  rintro e w2 ⟨rfl, hb2⟩
  have b2 : Hid (Below W.heap.size W w2) := below_to (by repeat (first | exact Below.refl _ _ | exact below_new _ | exact b1.out | assumption | refine Below.drew ?_ | refine Below.drewN ?_ _ | refine below_alloc ?_ _ | refine below_blk' ?_ (by omega) _)) hb2
  clear hb2
  clear b1
  go_upto_region 5 with (fail)
  obtain ⟨A, hA⟩ : ∃ b, w2.heap.size = b := ⟨_, rfl⟩
  have wA : W.heap.size ≤ A := by rw [← hA]; exact b2.out.size
  obtain ⟨w3, hw3⟩ : ∃ w3, w2.alloc (.cells (pt x y z t b) 46) = w3 := ⟨_, rfl⟩
  have kA := kept (show hget w3 (w2.heap.size) = some (.cells (pt x y z t b) 46) by rw [← hw3]; clear hw3; go_simp)
  have b3 : Hid (Below W.heap.size W w3) := by rw [← hw3]; repeat (first | exact Below.refl _ _ | exact below_new _ | exact b2.out | assumption | refine Below.drew ?_ | refine Below.drewN ?_ _ | refine below_alloc ?_ _ | refine below_blk' ?_ (by omega) _)
  rw [hw3]
  clear hw3
  try clear gA lA nA mA
  try clear jA
  have jA := kA.later
  obtain ⟨gA, lA, nA, mA⟩ := kA
  clear b2
  rw [hA] at *
  clear hA
  go_wp2_with fail
  try clear jA
  refine (D2.out _).mono ?_
  rintro e w4 ⟨rfl, hb4⟩
  have kA := Kept.on (kept (b := A) (o := .cells (pt x y z t b) 46 (0, 0)) (by go_simp)) hb4
  have b4 : Hid (Below W.heap.size W w4) := below_to (by repeat (first | exact Below.refl _ _ | exact below_new _ | exact b3.out | assumption | refine Below.drew ?_ | refine Below.drewN ?_ _ | refine below_alloc ?_ _ | refine below_blk' ?_ (by omega) _)) hb4
  clear hb4
  try clear gA lA nA mA
  obtain ⟨gA, lA, nA, mA⟩ := kA
  clear b3
  go_upto_region 6 with (fail)
  obtain ⟨B, hB⟩ : ∃ b, w4.heap.size = b := ⟨_, rfl⟩
  have wB : W.heap.size ≤ B := by rw [← hB]; exact b4.out.size
  have eAB : (A = B) = False := by rw [← hB]; exact nA
  have eBA : (B = A) = False := by rw [← hB]; exact mA
  obtain ⟨w5, hw5⟩ : ∃ w5, w4.alloc (.cells (pt x' y' z' t' b') 46) = w5 := ⟨_, rfl⟩
  have kA := kept (show hget w5 (A) = some (.cells (pt x y z t b) 46 (0, 0)) by rw [← hw5]; clear hw5; go_simp)
  have kB := kept (show hget w5 (w4.heap.size) = some (.cells (pt x' y' z' t' b') 46) by rw [← hw5]; clear hw5; go_simp)
  have b5 : Hid (Below W.heap.size W w5) := by rw [← hw5]; repeat (first | exact Below.refl _ _ | exact below_new _ | exact b4.out | assumption | refine Below.drew ?_ | refine Below.drewN ?_ _ | refine below_alloc ?_ _ | refine below_blk' ?_ (by omega) _)
  rw [hw5]
  clear hw5
  try clear gA lA nA mA
  try clear jA
  have jA := kA.later
  obtain ⟨gA, lA, nA, mA⟩ := kA
  try clear gB lB nB mB
  try clear jB
  have jB := kB.later
  obtain ⟨gB, lB, nB, mB⟩ := kB
  clear b4
  rw [hB] at *
  clear hB
  by_cases h0 : c = 0
  · have q1 : (c != 0) = false := by rw [bne_eq_false_iff_eq]; exact h0
    have q2 : (c' != 0) = true := by rw [bne_iff_ne]; omega
    clear h0 hc
    go_wp2_with fail
    go_ret
    exact ⟨rfl, b5.out⟩
  · have q1 : (c != 0) = true := by rw [bne_iff_ne]; omega
    clear h0 hc
    go_wp2_with fail
    go_ret
    exact ⟨rfl, b5.out⟩
set_option maxRecDepth 100000 in
set_option maxHeartbeats 2000000 in
theorem sverify_core (pub s sig R S : ByteArray) (a q M v tn : P4) (k n : Nat) (F C V : Bool) (W : World) (hT : Tab W) (h : sig.size = 64) (hR : sig.extract 0 32 = R) (hS : sig.extract 32 64 = S) (hp : pub.size = 32) (hs : s.size ≤ 1099511627776)
    (h1 : decV pub = .tuple #[pv a, .int .i64 0]) (h2 : decV R = .tuple #[pv q, .int .i64 0]) (ba : a.bd) (bq : q.bd) (hF : a.twice.twice.twice.same P4.zero = F) (hC : ocanB S = C) (hk : redN (cat [R, pub, s]) = k) (hn : bytesNat S.data.toList % ordL = n)
    (hM : P4.both (dP bsB) a k 0 = M) (hv : q.add M = v) (ht : bm n = tn) (hV : v.same tn = V) :
    Calls Tryd.prog 8 #[.string pub, .string s, .string sig] W fun r w' => r = .returned (.bool (!F && C && V)) ∧ Below W.heap.size W w' := by
  have zR : R.size = 32 := by rw [← hR, ByteArray.size_extract, h]; rfl
  have zS : S.size = 32 := by rw [← hS, ByteArray.size_extract, h]; rfl
  have lk : k < ordL := hk ▸ redN_lt _
  have ln : n < ordL := hn ▸ Nat.mod_lt _ (by decide)
  have bM : M.bd := hM ▸ P4.both_bd P4.base_bd ba k 0
  have bv : v.bd := hv ▸ P4.add_bd bq bM
  have bt : tn.bd := ht ▸ (bm_ok ln).bd
  have hsl : s.data.toList.length = s.size := by simp
  have D1 := hid (fun w => h1 ▸ pdecode_v pub w (by omega))
  have D2 := hid (fun w => h2 ▸ pdecode_v R w (by omega))
  have F1 := hid (fun w => hF ▸ few_v a w ba)
  have C1 := hid (fun w => hC ▸ Canonical_any S w (by omega))
  have O1 := hid (fun w => hn ▸ oOf_32 S w zS)
  have K1 : ∀ w b, Tab w → Strs w b [R, pub, s] → Calls Tryd.prog 11 #[.slice (some ⟨b, 0, none⟩) 3 3] w fun e w' => e = .returned (.agg (quad k)) ∧ Below w.heap.size w w' := fun w b h1 h2 => by
    have h3 := sred_any [R, pub, s] b 3 w h1 h2 (by rw [cat3, List.length_append, List.length_append, hsl]
                                                    have h4 : R.data.toList.length = 32 := by simpa using zR
                                                    have h5 : pub.data.toList.length = 32 := by simpa using hp
                                                    omega) (show 3 ≤ 9223372036854775807 by decide)
    rw [hk] at h3
    exact h3
  have K1 := hid K1
  have B1 := hid (fun w => hM ▸ pboth_v a k 0 w ba (Nat.lt_trans lk (by decide)) (by decide))
  have A1 := hid (fun w => hv ▸ padd_v q M w bq bM)
  have M1 := hid (fun w => ht ▸ stimes_any n w ln)
  have S1 := hid (fun w => hV ▸ psame_v v tn w bv bt)
  have HT := hid hT
  have hn : ((sig.size : Int) != 64) = false := by rw [bne_eq_false_iff_eq]; omega
  clear h1 h2 hp hF hC hk hM hv ht hV ba bq lk ln bM bv bt hsl hT
  go_enter Tryd.func8, Tryd.ntmps8
  go_wp2_with fail
  refine wp_region_later (by kernel_rfl) (by kernel_rfl) ?_
  repeat ((go_big_quiet_step ((fail))))
  refine wpQuiet_nil ?_
  intro wL hwL
  obtain ⟨⟨w8, hL⟩, e8⟩ := hwL
  change wL = w8 at e8
  subst e8
  have b1 := hid hL
  clear hL
  generalize wL = w1 at *
  skip
  go_wp2_with fail
  skip
  refine (D1.out _).mono ?_
  rintro e w2 ⟨rfl, hb2⟩
  have b2 : Hid (Below W.heap.size W w2) := below_to (by repeat (first | exact Below.refl _ _ | exact below_new _ | exact b1.out | assumption | refine Below.drew ?_ | refine Below.drewN ?_ _ | refine below_alloc ?_ _ | refine below_blk' ?_ (by omega) _)) hb2
  clear hb2
  clear b1
  go_upto_region 5 with (fail)
  obtain ⟨A, hA⟩ : ∃ b, w2.heap.size = b := ⟨_, rfl⟩
  have wA : W.heap.size ≤ A := by rw [← hA]; exact b2.out.size
  obtain ⟨w3, hw3⟩ : ∃ w3, w2.alloc (.cells (pt a.x a.y a.z a.t true) 46) = w3 := ⟨_, rfl⟩
  have kA := kept (show hget w3 (w2.heap.size) = some (.cells (pt a.x a.y a.z a.t true) 46) by rw [← hw3]; clear hw3; go_simp)
  have b3 : Hid (Below W.heap.size W w3) := by rw [← hw3]; repeat (first | exact Below.refl _ _ | exact below_new _ | exact b2.out | assumption | refine Below.drew ?_ | refine Below.drewN ?_ _ | refine below_alloc ?_ _ | refine below_blk' ?_ (by omega) _)
  rw [hw3]
  clear hw3
  try clear gA lA nA mA
  try clear jA
  have jA := kA.later
  obtain ⟨gA, lA, nA, mA⟩ := kA
  clear b2
  rw [hA] at *
  clear hA
  go_wp2_with fail
  try clear jA
  refine (D2.out _).mono ?_
  rintro e w4 ⟨rfl, hb4⟩
  have kA := Kept.on (kept (b := A) (o := .cells (pt a.x a.y a.z a.t true) 46 (0, 0)) (by go_simp)) hb4
  have b4 : Hid (Below W.heap.size W w4) := below_to (by repeat (first | exact Below.refl _ _ | exact below_new _ | exact b3.out | assumption | refine Below.drew ?_ | refine Below.drewN ?_ _ | refine below_alloc ?_ _ | refine below_blk' ?_ (by omega) _)) hb4
  clear hb4
  try clear gA lA nA mA
  obtain ⟨gA, lA, nA, mA⟩ := kA
  clear b3
  go_upto_region 6 with (fail)
  obtain ⟨B, hB⟩ : ∃ b, w4.heap.size = b := ⟨_, rfl⟩
  have wB : W.heap.size ≤ B := by rw [← hB]; exact b4.out.size
  have eAB : (A = B) = False := by rw [← hB]; exact nA
  have eBA : (B = A) = False := by rw [← hB]; exact mA
  obtain ⟨w5, hw5⟩ : ∃ w5, w4.alloc (.cells (pt q.x q.y q.z q.t true) 46) = w5 := ⟨_, rfl⟩
  have kA := kept (show hget w5 (A) = some (.cells (pt a.x a.y a.z a.t true) 46 (0, 0)) by rw [← hw5]; clear hw5; go_simp)
  have kB := kept (show hget w5 (w4.heap.size) = some (.cells (pt q.x q.y q.z q.t true) 46) by rw [← hw5]; clear hw5; go_simp)
  have b5 : Hid (Below W.heap.size W w5) := by rw [← hw5]; repeat (first | exact Below.refl _ _ | exact below_new _ | exact b4.out | assumption | refine Below.drew ?_ | refine Below.drewN ?_ _ | refine below_alloc ?_ _ | refine below_blk' ?_ (by omega) _)
  rw [hw5]
  clear hw5
  try clear gA lA nA mA
  try clear jA
  have jA := kA.later
  obtain ⟨gA, lA, nA, mA⟩ := kA
  try clear gB lB nB mB
  try clear jB
  have jB := kB.later
  obtain ⟨gB, lB, nB, mB⟩ := kB
  clear b4
  rw [hB] at *
  clear hB
  clear D1 D2
  go_wp2_with fail
  try clear jA jB
  refine (F1.out _).mono ?_
  rintro e w6 ⟨rfl, hb6⟩
  have kA := Kept.on (kept (b := A) (o := .cells (pt a.x a.y a.z a.t true) 46 (0, 0)) (by go_simp)) hb6
  have kB := Kept.on (kept (b := B) (o := .cells (pt q.x q.y q.z q.t true) 46 (0, 0)) (by go_simp)) hb6
  have b6 : Hid (Below W.heap.size W w6) := below_to (by repeat (first | exact Below.refl _ _ | exact below_new _ | exact b5.out | assumption | refine Below.drew ?_ | refine Below.drewN ?_ _ | refine below_alloc ?_ _ | refine below_blk' ?_ (by omega) _)) hb6
  clear hb6
  try clear gA lA nA mA
  obtain ⟨gA, lA, nA, mA⟩ := kA
  try clear gB lB nB mB
  obtain ⟨gB, lB, nB, mB⟩ := kB
  clear b5
  skip
  cases F
  · go_wp2_with fail
    try clear jA jB
    refine (C1.out _).mono ?_
    rintro e w7 ⟨rfl, hb7⟩
    have kA := Kept.on (kept (b := A) (o := .cells (pt a.x a.y a.z a.t true) 46 (0, 0)) (by go_simp)) hb7
    have kB := Kept.on (kept (b := B) (o := .cells (pt q.x q.y q.z q.t true) 46 (0, 0)) (by go_simp)) hb7
    have b7 : Hid (Below W.heap.size W w7) := below_to (by repeat (first | exact Below.refl _ _ | exact below_new _ | exact b6.out | assumption | refine Below.drew ?_ | refine Below.drewN ?_ _ | refine below_alloc ?_ _ | refine below_blk' ?_ (by omega) _)) hb7
    clear hb7
    try clear gA lA nA mA
    obtain ⟨gA, lA, nA, mA⟩ := kA
    try clear gB lB nB mB
    obtain ⟨gB, lB, nB, mB⟩ := kB
    clear b6
    cases C
    · go_wp2_with fail
      go_ret
      exact ⟨rfl, b7.out⟩
    · go_wp2_with fail
      try clear jA jB
      refine (O1.out _).mono ?_
      rintro e w8 ⟨rfl, hb8⟩
      have kA := Kept.on (kept (b := A) (o := .cells (pt a.x a.y a.z a.t true) 46 (0, 0)) (by go_simp)) hb8
      have kB := Kept.on (kept (b := B) (o := .cells (pt q.x q.y q.z q.t true) 46 (0, 0)) (by go_simp)) hb8
      have b8 : Hid (Below W.heap.size W w8) := below_to (by repeat (first | exact Below.refl _ _ | exact below_new _ | exact b7.out | assumption | refine Below.drew ?_ | refine Below.drewN ?_ _ | refine below_alloc ?_ _ | refine below_blk' ?_ (by omega) _)) hb8
      clear hb8
      try clear gA lA nA mA
      obtain ⟨gA, lA, nA, mA⟩ := kA
      try clear gB lB nB mB
      obtain ⟨gB, lB, nB, mB⟩ := kB
      clear b7
      go_upto_region 9 with (fail)
      obtain ⟨N, hN⟩ : ∃ b, w8.heap.size = b := ⟨_, rfl⟩
      have wN : W.heap.size ≤ N := by rw [← hN]; exact b8.out.size
      have eAN : (A = N) = False := by rw [← hN]; exact nA
      have eNA : (N = A) = False := by rw [← hN]; exact mA
      have eBN : (B = N) = False := by rw [← hN]; exact nB
      have eNB : (N = B) = False := by rw [← hN]; exact mB
      obtain ⟨w9, hw9⟩ : ∃ w9, w8.alloc (.cells (quad n) 37) = w9 := ⟨_, rfl⟩
      have kA := kept (show hget w9 (A) = some (.cells (pt a.x a.y a.z a.t true) 46 (0, 0)) by rw [← hw9]; clear hw9; go_simp)
      have kB := kept (show hget w9 (B) = some (.cells (pt q.x q.y q.z q.t true) 46 (0, 0)) by rw [← hw9]; clear hw9; go_simp)
      have kN := kept (show hget w9 (w8.heap.size) = some (.cells (quad n) 37) by rw [← hw9]; clear hw9; go_simp)
      have b9 : Hid (Below W.heap.size W w9) := by rw [← hw9]; repeat (first | exact Below.refl _ _ | exact below_new _ | exact b8.out | assumption | refine Below.drew ?_ | refine Below.drewN ?_ _ | refine below_alloc ?_ _ | refine below_blk' ?_ (by omega) _)
      rw [hw9]
      clear hw9
      try clear gA lA nA mA
      try clear jA
      have jA := kA.later
      obtain ⟨gA, lA, nA, mA⟩ := kA
      try clear gB lB nB mB
      try clear jB
      have jB := kB.later
      obtain ⟨gB, lB, nB, mB⟩ := kB
      try clear gN lN nN mN
      try clear jN
      have jN := kN.later
      obtain ⟨gN, lN, nN, mN⟩ := kN
      clear b8
      rw [hN] at *
      clear hN
      have hT6 := HT.out.keep b9.out
      have jA := Kept.later (kept gA)
      have jB := Kept.later (kept gB)
      have jN := Kept.later (kept gN)
      clear F1 C1 O1
      refine wp_region_gho [5] (fun _ u w => ∃ b, u = .slice (some ⟨b, 0, none⟩) 3 3 ∧ w.heap[b]? = some (.cells #[.string R, .string pub, .string s] 9 (0, 0))) (by kernel_rfl) (by kernel_rfl) (by kernel_rfl) (fun _ u w w' ⟨b, h1, h2⟩ hb => ⟨b, h1, keepB hb h2⟩) ?_
      repeat (first | (refine wpGho_plain (by kernel_rfl) (by decide) (by rfl) (by rfl) (fun K hK => ?_); go_simp; refine hK _ ?_; clear hK K; try go_ints))
      refine wpGho_make (by kernel_rfl) (by decide) (by rfl) (by rfl) (by rfl) (fun K hK => ?_)
      go_simp
      refine ⟨fun x => ⟨below_new _, _, rfl, alloc_at _ _⟩, hK _ ?_⟩
      clear hK K
      refine wpGho_read (by decide) (by rfl) (fun K hK => ?_)
      refine ⟨.agg (quad k), fun g x hR => ?_, hK _ ?_⟩
      · obtain ⟨b8, hb8, hc8⟩ := hR 5 (by decide) (by kernel_rfl)
        rw [show ∀ a, over _ [5] g a = Act.put a (some 57) (g 5) from fun _ => rfl, hb8]
        have C1 := K1.out x.w' b8 (hT6.keep x.h) ⟨_, _, hc8⟩
        clear hR
        go_simp
        done
      clear hK K
      simp only [Act.put, List.setIfInBounds_toArray, List.set_cons_zero, List.set_cons_succ]
      repeat (first | (refine wpGho_plain (by kernel_rfl) (by decide) (by rfl) (by rfl) (fun K hK => ?_); go_simp; refine hK _ ?_; clear hK K; try go_ints) | (refine wpGho_plain (by kernel_rfl) (by decide) (by rfl) (by rfl) (fun K hK => ?_); go_simp; refine ⟨_, fun x => B1.out _, hK _ ?_⟩; clear hK K; try go_ints) | (refine wpGho_plain (by kernel_rfl) (by decide) (by rfl) (by rfl) (fun K hK => ?_); go_simp; refine ⟨_, fun x => A1.out _, hK _ ?_⟩; clear hK K; try go_ints) | (refine wpGho_plain (by kernel_rfl) (by decide) (by rfl) (by rfl) (fun K hK => ?_); go_simp; refine ⟨_, fun x => M1.out _, hK _ ?_⟩; clear hK K; try go_ints) | (refine wpGho_plain (by kernel_rfl) (by decide) (by rfl) (by rfl) (fun K hK => ?_); go_simp; refine ⟨_, fun x => S1.out _, hK _ ?_⟩; clear hK K; try go_ints))
      refine wpGho_nil ?_
      intro g wM hwM hR
      obtain ⟨⟨w99, hM⟩, e9⟩ := hwM
      change wM = w99 at e9
      subst e9
      obtain ⟨b8, hb8, _⟩ := hR 5 (by decide)
      rw [show ∀ a, over _ [5] g a = Act.put a (some 57) (g 5) from fun _ => rfl, hb8]
      simp only [Act.put, List.setIfInBounds_toArray, List.set_cons_zero, List.set_cons_succ]
      clear hR hb8
      go_wp2_with fail
      go_ret
      exact ⟨by cases V <;> rfl, below_to b9.out hM⟩
  · skip
    go_wp2_with fail
    go_ret
    exact ⟨rfl, b6.out⟩

set_option maxRecDepth 100000 in
theorem extract_end (sig : ByteArray) (h : sig.size = 64) : sig.extract 32 64 = sig.extract 32 sig.size := by rw [h]
open Classical in
set_option maxRecDepth 100000 in
/-- Which signatures the program verifies. -/
theorem sverify_any (pub s sig : ByteArray) (W : World) (hT : Tab W) (hp : pub.size ≤ 9223372036854775807) (hs : s.size ≤ 1099511627776) : Calls Tryd.prog 8 #[.string pub, .string s, .string sig] W fun r w' => r = .returned (.bool (vrB pub s sig)) ∧ Below W.heap.size W w' := by
  by_cases h : sig.size = 64
  · obtain ⟨x, y, z, t, b, c, e1, i1⟩ := decV_form pub
    obtain ⟨x', y', z', t', b', c', e2, i2⟩ := decV_form (sig.extract 0 32)
    by_cases hc : c = 0 ∧ c' = 0
    · have d1 := i1.1 hc.1
      have d2 := i2.1 hc.2
      have f1 : decV pub = .tuple #[pv (dP pub), .int .i64 0] := by unfold decV; rw [if_pos d1]
      have f2 : decV (sig.extract 0 32) = .tuple #[pv (dP (sig.extract 0 32)), .int .i64 0] := by unfold decV; rw [if_pos d2]
      have hp32 : pub.size = 32 := by
        have d3 := d1
        unfold dOk at d3
        rw [Bool.and_eq_true] at d3
        exact of_decide_eq_true d3.1
      have oa := dP_ok d1
      have oq := dP_ok d2
      have lk : vrNum pub s sig < ordL := redN_lt _
      have oM := P4.both_ok base_ok oa (m := vrNum pub s sig) (n := 0) (Nat.lt_trans lk (by decide)) (by decide)
      rw [Pt.mul_zero, Pt.add_zero] at oM
      have ov := P4.add_ok oq oM
      have ot := bm_ok (n := bytesNat (sig.extract 32 64).data.toList % ordL) (Nat.mod_lt _ (by decide))
      have iV := P4.same_iff ov ot
      have iF := few_iff oa
      have hcat : redN (cat [sig.extract 0 32, pub, s]) = vrNum pub s sig := by unfold vrNum; rw [cat3]
      obtain ⟨F, hF⟩ : ∃ F, (dP pub).twice.twice.twice.same P4.zero = F := ⟨_, rfl⟩
      obtain ⟨C, hC⟩ : ∃ C, ocanB (sig.extract 32 64) = C := ⟨_, rfl⟩
      obtain ⟨M, hM⟩ : ∃ M, P4.both (dP bsB) (dP pub) (vrNum pub s sig) 0 = M := ⟨_, rfl⟩
      obtain ⟨v, hv⟩ : ∃ v, (dP (sig.extract 0 32)).add M = v := ⟨_, rfl⟩
      obtain ⟨tn, ht⟩ : ∃ tn, bm (bytesNat (sig.extract 32 64).data.toList % ordL) = tn := ⟨_, rfl⟩
      obtain ⟨V, hV⟩ : ∃ V, v.same tn = V := ⟨_, rfl⟩
      rw [hM, hv, ht, hV] at iV
      rw [hF] at iF
      have hcore := sverify_core pub s sig _ _ (dP pub) (dP (sig.extract 0 32)) M v tn (vrNum pub s sig) _ F C V W hT h rfl rfl hp32 hs f1 f2 oa.bd oq.bd hF hC hcat rfl hM hv ht hV
      have hfin : (!F && C && V) = vrB pub s sig := by
        rw [Bool.eq_iff_iff, Bool.and_eq_true, Bool.and_eq_true, Bool.not_eq_true', ← Bool.not_eq_true, iF, iV, ← hC]
        unfold vrB
        rw [decide_eq_true_eq]
        unfold vrOk
        constructor
        · rintro ⟨⟨g1, g2⟩, g3⟩
          exact ⟨h, g2, d1, d2, g1, g3.symm⟩
        · rintro ⟨_, g2, _, _, g1, g3⟩
          exact ⟨⟨g1, g2⟩, g3.symm⟩
      rw [hfin] at hcore
      exact hcore
    · rw [vrB_false (fun hv => by
        obtain ⟨_, _, d1, d2, _⟩ := hv
        exact hc ⟨i1.2 d1, i2.2 d2⟩)]
      exact sverify_bad pub s sig _ _ x y z t x' y' z' t' b b' c c' W h rfl rfl hp e1 e2 (by omega)
  · rw [vrB_false (vr_short h)]
    exact sverify_short pub s sig W h

end Go.Proofs.YtceljjnohjnepaaDoor

namespace Go.Proofs.YtceljjnohjnepaaDoor
open EG DG NT

set_option maxRecDepth 100000 in
theorem T3.base_is : T3.is ⟨bxN, byN, 1⟩ bP := ⟨cv.one, by show fp bxN = fp bxN * fp 1; rw [← fp_mul, Nat.mul_one], by show fp byN = fp byN * fp 1; rw [← fp_mul, Nat.mul_one]⟩
set_option maxRecDepth 100000 in
theorem T3.coord {t : T3} {p : Pt cv} (h : t.is p) {x y : Nat} (hx : x < NT.P) (hy : y < NT.P) (hc : (decide (x * t.z % NT.P = t.x % NT.P) && decide (y * t.z % NT.P = t.y % NT.P)) = true) : p.x.val = x ∧ p.y.val = y := by
  rw [Bool.and_eq_true, decide_eq_true_eq, decide_eq_true_eq] at hc
  have ex : fp x * fp t.z = p.x * fp t.z := by rw [← h.hx, ← fp_mul, fp_eq]; exact hc.1
  have ey : fp y * fp t.z = p.y * fp t.z := by rw [← h.hy, ← fp_mul, fp_eq]; exact hc.2
  have cn : ∀ {a b : FP}, a * fp t.z = b * fp t.z → a = b := fun {a b} e => cv.cancel h.z (by rw [show fp t.z * a = a * fp t.z by grind, e]; grind)
  have h1 := cn ex
  have h2 := cn ey
  rw [← h1, ← h2]
  exact ⟨Nat.mod_eq_of_lt hx, Nat.mod_eq_of_lt hy⟩
set_option maxRecDepth 100000 in
theorem mul_known {n x y : Nat} (hn : n < 2 ^ 253) (hx : x < NT.P) (hy : y < NT.P) (hc : (let t := T3.mul 253 n ⟨bxN, byN, 1⟩; decide (x * t.z % NT.P = t.x % NT.P) && decide (y * t.z % NT.P = t.y % NT.P)) = true) : ptB (Pt.mul n bP) = encB y (decide (x % 2 = 1)) := by
  obtain ⟨h1, h2⟩ := T3.coord (T3.mul_is T3.base_is 253 n hn) hx hy hc
  unfold ptB
  rw [h1, h2]
def kZ : ByteArray := ⟨#[0, 0, 0, 0, 0, 0, 0, 0, 0, 0, 0, 0, 0, 0, 0, 0, 0, 0, 0, 0, 0, 0, 0, 0, 0, 0, 0, 0, 0, 0, 0, 0]⟩
def kT : ByteArray := ⟨#[116, 101, 120, 116]⟩
def kT2 : ByteArray := ⟨#[116, 101, 120, 84]⟩
def kPub : ByteArray := ⟨#[59, 106, 39, 188, 206, 182, 164, 45, 98, 163, 168, 208, 42, 111, 13, 115, 101, 50, 21, 119, 29, 226, 67, 166, 58, 192, 72, 161, 139, 89, 218, 41]⟩
def kQ : ByteArray := ⟨#[14, 186, 195, 4, 107, 49, 207, 22, 124, 98, 116, 156, 217, 148, 29, 121, 29, 24, 142, 196, 46, 189, 59, 57, 131, 192, 14, 94, 171, 221, 154, 200]⟩
set_option maxRecDepth 100000 in
theorem k_sha : SH.sha kZ.data.toList = [80, 70, 173, 193, 219, 168, 56, 134, 123, 43, 187, 253, 208, 195, 66, 62, 88, 181, 121, 112, 181, 38, 122, 144, 245, 121, 96, 146, 74, 135, 241, 150, 10, 106, 133, 234, 166, 66, 218, 200, 53, 66, 75, 93, 124, 141, 99, 124, 0, 64, 140, 122, 115, 218, 103, 43, 127, 73, 133, 33, 66, 11, 109, 211] := by decide +kernel
set_option maxRecDepth 100000 in
theorem k_h : sgH kZ = ⟨#[80, 70, 173, 193, 219, 168, 56, 134, 123, 43, 187, 253, 208, 195, 66, 62, 88, 181, 121, 112, 181, 38, 122, 144, 245, 121, 96, 146, 74, 135, 241, 150, 10, 106, 133, 234, 166, 66, 218, 200, 53, 66, 75, 93, 124, 141, 99, 124, 0, 64, 140, 122, 115, 218, 103, 43, 127, 73, 133, 33, 66, 11, 109, 211]⟩ := by unfold sgH; rw [k_sha]
set_option maxRecDepth 100000 in
theorem k_a : sgA kZ = 3140620980319341722849076354004524857726602937622481303882784251885505225391 := by
  unfold sgA sgL
  rw [k_h]
  decide +kernel
set_option maxRecDepth 100000 in
theorem k_pub : pubB kZ = kPub := by
  unfold pubB
  rw [k_a, mul_known (x := 9639205628789703341510410801487549615560488670885798085067615194958049462616) (y := 18930617471878267742194159801949745215346600387277955685031939302387136031291) (by decide +kernel) (by decide +kernel) (by decide +kernel) (by decide +kernel)]
  decide +kernel
set_option maxRecDepth 100000 in
theorem k_pre : (sgPre kZ).data.toList = [10, 106, 133, 234, 166, 66, 218, 200, 53, 66, 75, 93, 124, 141, 99, 124, 0, 64, 140, 122, 115, 218, 103, 43, 127, 73, 133, 33, 66, 11, 109, 211] := by
  unfold sgPre
  rw [k_h]
  decide +kernel
set_option maxRecDepth 100000 in
theorem k_shr : SH.sha ([10, 106, 133, 234, 166, 66, 218, 200, 53, 66, 75, 93, 124, 141, 99, 124, 0, 64, 140, 122, 115, 218, 103, 43, 127, 73, 133, 33, 66, 11, 109, 211] ++ kT.data.toList) = [136, 212, 239, 1, 55, 2, 143, 221, 51, 206, 240, 34, 101, 155, 231, 59, 191, 238, 181, 47, 217, 174, 208, 148, 63, 253, 36, 54, 129, 195, 103, 178, 190, 105, 20, 106, 200, 118, 38, 130, 254, 42, 66, 142, 252, 122, 84, 120, 50, 70, 148, 159, 38, 15, 11, 119, 183, 49, 240, 131, 50, 139, 200, 162] := by decide +kernel
set_option maxRecDepth 100000 in
theorem k_r : sgR kZ kT = 850196773666356309422339814893910971881761216279783485008188274366385375558 := by
  unfold sgR redN
  rw [k_pre, k_shr]
  decide +kernel
set_option maxRecDepth 100000 in
theorem k_q : sgQ kZ kT = kQ := by
  unfold sgQ
  rw [k_r, mul_known (x := 14323186114096107276011007998775139596920633365260878199248869679743839922731) (y := 32840149451969995985594777942676008289005610481737864901368891941030908377614) (by decide +kernel) (by decide +kernel) (by decide +kernel) (by decide +kernel)]
  decide +kernel
set_option maxRecDepth 100000 in
theorem k_sh1 : SH.sha (kQ.data.toList ++ (kPub.data.toList ++ kT.data.toList)) = [63, 59, 253, 9, 138, 202, 246, 110, 83, 165, 71, 48, 208, 53, 108, 72, 89, 6, 45, 72, 224, 148, 197, 236, 216, 234, 103, 0, 118, 240, 190, 95, 150, 220, 120, 47, 133, 53, 225, 127, 140, 157, 89, 224, 86, 61, 29, 112, 147, 82, 80, 112, 242, 195, 32, 191, 159, 212, 100, 184, 107, 23, 103, 247] := by decide +kernel
set_option maxRecDepth 100000 in
theorem k_sh2 : SH.sha (kQ.data.toList ++ (kPub.data.toList ++ kT2.data.toList)) = [148, 4, 219, 77, 200, 103, 108, 182, 124, 115, 232, 94, 25, 175, 203, 209, 147, 197, 221, 114, 12, 242, 15, 70, 183, 94, 143, 18, 63, 150, 208, 251, 78, 131, 101, 207, 93, 57, 152, 47, 177, 15, 110, 55, 47, 219, 151, 248, 126, 202, 211, 219, 247, 91, 233, 26, 235, 171, 47, 175, 162, 179, 207, 214] := by decide +kernel
set_option maxRecDepth 100000 in
theorem k_n1 : bytesNat [63, 59, 253, 9, 138, 202, 246, 110, 83, 165, 71, 48, 208, 53, 108, 72, 89, 6, 45, 72, 224, 148, 197, 236, 216, 234, 103, 0, 118, 240, 190, 95, 150, 220, 120, 47, 133, 53, 225, 127, 140, 157, 89, 224, 86, 61, 29, 112, 147, 82, 80, 112, 242, 195, 32, 191, 159, 212, 100, 184, 107, 23, 103, 247] % ordL = 3051700886902431880199312561605616305919771856675659439704689325507489791389 := by decide +kernel
set_option maxRecDepth 100000 in
theorem k_n2 : bytesNat [148, 4, 219, 77, 200, 103, 108, 182, 124, 115, 232, 94, 25, 175, 203, 209, 147, 197, 221, 114, 12, 242, 15, 70, 183, 94, 143, 18, 63, 150, 208, 251, 78, 131, 101, 207, 93, 57, 152, 47, 177, 15, 110, 55, 47, 219, 151, 248, 126, 202, 211, 219, 247, 91, 233, 26, 235, 171, 47, 175, 162, 179, 207, 214] % ordL = 6926124309909794583650894854177328360763410026704415995850608499506585452493 := by decide +kernel
set_option maxRecDepth 100000 in
theorem k_K1 : sgK kZ kT = 3051700886902431880199312561605616305919771856675659439704689325507489791389 := by
  unfold sgK
  rw [k_q, k_pub]
  unfold redN
  rw [k_sh1, k_n1]
set_option maxRecDepth 100000 in
theorem k_K2 : redN (kQ.data.toList ++ (kPub.data.toList ++ kT2.data.toList)) = 6926124309909794583650894854177328360763410026704415995850608499506585452493 := by
  unfold redN
  rw [k_sh2, k_n2]
set_option maxRecDepth 100000 in
theorem k_not : ¬ vrOk (pubB kZ) kT2 (sigB kZ kT) := fun h => by
  have h1 := vr_other h
  rw [k_K1, k_q, k_pub, k_K2] at h1
  have h2 : (3051700886902431880199312561605616305919771856675659439704689325507489791389 : Nat) ≠ 6926124309909794583650894854177328360763410026704415995850608499506585452493 := by decide
  exact h2 h1
set_option maxRecDepth 100000 in
theorem kZ_size : kZ.size = 32 := rfl

end Go.Proofs.YtceljjnohjnepaaDoor

namespace Go.Proofs.YtceljjnohjnepaaDoor
open Go Go.RowKit DG EG

set_option maxRecDepth 100000 in
theorem skconv (n : Nat) (w : World) (b : Nat) (h : w.heap[b]? = some (.cells (ints .u8 (List.replicate n 0)) 5 (0, 0))) : (convert 27 9 (.slice (some ⟨b, 0, none⟩) n n)).run Tryd.prog w = .ok (.string ⟨(List.replicate n 0).toArray⟩) w := by
  have := oconv_string w b 0 n n (List.replicate n 0) (by simp) (fun j hj => by
    rw [Nat.zero_add, ints_cell h (by simpa using hj)]; simp [hj])
  exact this
set_option maxRecDepth 100000 in
theorem skc32 (w : World) : (convert 27 9 (.slice (some ⟨w.heap.size, 0, none⟩) 32 32)).run Tryd.prog (w.alloc (.cells (ints .u8 [0, 0, 0, 0, 0, 0, 0, 0, 0, 0, 0, 0, 0, 0, 0, 0, 0, 0, 0, 0, 0, 0, 0, 0, 0, 0, 0, 0, 0, 0, 0, 0]) 5)) = .ok (.string kZ) (w.alloc (.cells (ints .u8 [0, 0, 0, 0, 0, 0, 0, 0, 0, 0, 0, 0, 0, 0, 0, 0, 0, 0, 0, 0, 0, 0, 0, 0, 0, 0, 0, 0, 0, 0, 0, 0]) 5)) := skconv 32 _ _ (alloc_at _ _)
attribute [local go_sem] skc32
set_option maxRecDepth 100000 in
theorem salive_size (x : ByteArray) (h : x.size = 64) : (x.extract 0 63).size = 63 := by rw [ByteArray.size_extract, h]; rfl
set_option maxRecDepth 100000 in
set_option maxHeartbeats 1000000 in
theorem salive_core (K p x y : ByteArray) (W : World) (hT : Tab W) (hK : kZ = K) (hp : pubB kZ = p) (hx : sigB kZ kT = x) (hy : x.extract 0 63 = y) :
    Calls Tryd.prog 4 #[] W fun e w' => e = .returned (.bool true) ∧ Below W.heap.size W w' := by
  have zK : K.size = 32 := hK ▸ kZ_size
  have zp : p.size = 32 := hp ▸ pubB_size kZ
  have zx : x.size = 64 := hx ▸ sigB_size kZ kT
  have zy : y.size = 63 := hy ▸ salive_size x zx
  have P1 : ∀ w, Tab w → Calls Tryd.prog 5 #[.string K] w fun r w' => r = .returned (.tuple #[.string p, .int .i64 0]) ∧ Below w.heap.size w w' := fun w h => by
    have h1 := spublic_any K w h
    unfold spS spE at h1
    rw [if_pos zK, if_pos zK, ← hK, hp] at h1
    rw [← hK]
    exact h1
  have S1 : ∀ w, Tab w → Calls Tryd.prog 6 #[.string K, .string ⟨#[116, 101, 120, 116]⟩] w fun r w' => r = .returned (.tuple #[.string x, .int .i64 0]) ∧ Below w.heap.size w w' := fun w h => by
    have h1 := ssign_any K kT w h (by decide)
    unfold siS spE at h1
    rw [if_pos zK, if_pos zK, ← hK, hx] at h1
    rw [← hK]
    exact h1
  have S2 : ∀ w, Tab w → Calls Tryd.prog 6 #[.string ⟨#[115, 104, 111, 114, 116]⟩, .string ⟨#[116, 101, 120, 116]⟩] w fun r w' => r = .returned (.tuple #[.string ⟨#[]⟩, .int .i64 2]) ∧ Below w.heap.size w w' := fun w _ => ssign_no _ _ w (by decide)
  have V1 : ∀ w, Tab w → Calls Tryd.prog 8 #[.string p, .string ⟨#[116, 101, 120, 116]⟩, .string x] w fun r w' => r = .returned (.bool true) ∧ Below w.heap.size w w' := fun w h => by
    have h1 := sverify_any p kT x w h (by omega) (by decide)
    rw [vrB_true (by rw [← hp, ← hx]; exact vr_self kZ kT)] at h1
    exact h1
  have V2 : ∀ w, Tab w → Calls Tryd.prog 8 #[.string p, .string ⟨#[116, 101, 120, 84]⟩, .string x] w fun r w' => r = .returned (.bool false) ∧ Below w.heap.size w w' := fun w h => by
    have h1 := sverify_any p kT2 x w h (by omega) (by decide)
    rw [vrB_false (by rw [← hp, ← hx]; exact k_not)] at h1
    exact h1
  have V3 : ∀ w, Tab w → Calls Tryd.prog 8 #[.string p, .string ⟨#[116, 101, 120, 116]⟩, .string y] w fun r w' => r = .returned (.bool false) ∧ Below w.heap.size w w' := fun w _ => sverify_short p _ y w (by omega)
  have P1 := hid P1
  have S1 := hid S1
  have S2 := hid S2
  have V1 := hid V1
  have V2 := hid V2
  have V3 := hid V3
  have HT := hid hT
  clear hT hp hx zK
  go_enter Tryd.func4, Tryd.ntmps4
  go_upto_region 2 with (fail)
  obtain ⟨w1, hw1⟩ : ∃ w1, W.alloc (.cells (ints .u8 [0, 0, 0, 0, 0, 0, 0, 0, 0, 0, 0, 0, 0, 0, 0, 0, 0, 0, 0, 0, 0, 0, 0, 0, 0, 0, 0, 0, 0, 0, 0, 0]) 5) = w1 := ⟨_, rfl⟩
  have b1 : Hid (Below W.heap.size W w1) := by rw [← hw1]; repeat (first | exact Below.refl _ _ | exact below_new _ | assumption | refine Below.drew ?_ | refine Below.drewN ?_ _ | refine below_alloc ?_ _ | refine below_blk' ?_ (by omega) _)
  rw [hw1]
  clear hw1
  clear hK
  go_wp2_with fail
  have TB := HT.out.keep b1.out
  skip
  refine (P1.out _ TB).mono ?_
  rintro e w2 ⟨rfl, hb2⟩
  have b2 : Hid (Below W.heap.size W w2) := below_to (by repeat (first | exact Below.refl _ _ | exact below_new _ | exact b1.out | assumption | refine Below.drew ?_ | refine Below.drewN ?_ _ | refine below_alloc ?_ _ | refine below_blk' ?_ (by omega) _)) hb2
  clear hb2
  clear b1
  clear TB
  go_wp2_with fail
  have TB := HT.out.keep b2.out
  skip
  refine (S1.out _ TB).mono ?_
  rintro e w3 ⟨rfl, hb3⟩
  have b3 : Hid (Below W.heap.size W w3) := below_to (by repeat (first | exact Below.refl _ _ | exact below_new _ | exact b2.out | assumption | refine Below.drew ?_ | refine Below.drewN ?_ _ | refine below_alloc ?_ _ | refine below_blk' ?_ (by omega) _)) hb3
  clear hb3
  clear b2
  clear TB
  go_wp2_with fail
  have TB := HT.out.keep b3.out
  skip
  refine (S2.out _ TB).mono ?_
  rintro e w4 ⟨rfl, hb4⟩
  have b4 : Hid (Below W.heap.size W w4) := below_to (by repeat (first | exact Below.refl _ _ | exact below_new _ | exact b3.out | assumption | refine Below.drew ?_ | refine Below.drewN ?_ _ | refine below_alloc ?_ _ | refine below_blk' ?_ (by omega) _)) hb4
  clear hb4
  clear b3
  clear TB
  go_wp2_with fail
  have TB := HT.out.keep b4.out
  skip
  refine (V1.out _ TB).mono ?_
  rintro e w5 ⟨rfl, hb5⟩
  have b5 : Hid (Below W.heap.size W w5) := below_to (by repeat (first | exact Below.refl _ _ | exact below_new _ | exact b4.out | assumption | refine Below.drew ?_ | refine Below.drewN ?_ _ | refine below_alloc ?_ _ | refine below_blk' ?_ (by omega) _)) hb5
  clear hb5
  clear b4
  clear TB
  go_wp2_with fail
  have TB := HT.out.keep b5.out
  skip
  refine (V2.out _ TB).mono ?_
  rintro e w6 ⟨rfl, hb6⟩
  have b6 : Hid (Below W.heap.size W w6) := below_to (by repeat (first | exact Below.refl _ _ | exact below_new _ | exact b5.out | assumption | refine Below.drew ?_ | refine Below.drewN ?_ _ | refine below_alloc ?_ _ | refine below_blk' ?_ (by omega) _)) hb6
  clear hb6
  clear b5
  clear TB
  go_wp2_with fail
  have TB := HT.out.keep b6.out
  skip
  refine (V3.out _ TB).mono ?_
  rintro e w7 ⟨rfl, hb7⟩
  have b7 : Hid (Below W.heap.size W w7) := below_to (by repeat (first | exact Below.refl _ _ | exact below_new _ | exact b6.out | assumption | refine Below.drew ?_ | refine Below.drewN ?_ _ | refine below_alloc ?_ _ | refine below_blk' ?_ (by omega) _)) hb7
  clear hb7
  clear b6
  clear TB
  go_wp2_with fail
  go_ret
  exact ⟨rfl, b7.out⟩
set_option maxRecDepth 100000 in
theorem salive_any (W : World) (hT : Tab W) : Calls Tryd.prog 4 #[] W fun e w' => e = .returned (.bool true) ∧ Below W.heap.size W w' :=
  salive_core _ _ _ _ W hT rfl rfl rfl rfl


end Go.Proofs.YtceljjnohjnepaaDoor
