/- The curve: the zero point, doubles. Texts of a byte. A number of 255 bits and a bit above it, as 32 bytes. The curve: are two points the same; a point's bytes. The curve: which point bytes are. -/
import Derived.Test.YtceljjnohjnepaaDoorM08
namespace Go.Proofs.YtceljjnohjnepaaDoor
open Go Go.RowKit DG
attribute [local go_sem ↓] exl_Elem exs_Elem exl_Pt exs_Pt exb_Pt
                    attribute [local go_sem] ldm_Elem str_Elem ldr_Pt str_Pt to_quad0 pt_zero bld_pt bld_pt0

/-- A point as a value. -/
abbrev pv (s : P4) : Value := .agg (pt s.x s.y s.z s.t true)
abbrev noPt : Value := .agg (pt 0 0 0 0 false)
set_option maxRecDepth 100000 in
theorem padd_v (s u : P4) (W : World) (h : s.bd) (k : u.bd) : Calls Tryd.prog 20 #[pv s, pv u] W fun r w' => r = .returned (pv (s.add u)) ∧ Below W.heap.size W w' :=
  padd_core s.x s.y s.z s.t u.x u.y u.z u.t _ _ _ _ W h.x h.y h.z h.t k.x k.y k.z k.t rfl rfl rfl rfl

set_option maxRecDepth 100000 in
theorem bld_ptz (y z : Nat) (w : World) : (buildRow 46 #[(1, .agg (quad y)), (2, .agg (quad z)), (4, .bool true)]).run Tryd.prog w = .ok (.agg (pt 0 y z 0 true)) w :=
  run_build w 46 _ _ (by kernel_rfl)
attribute [local go_sem] bld_ptz
set_option maxRecDepth 100000 in
set_option maxHeartbeats 1000000 in
theorem pzero_any (W : World) : Calls Tryd.prog 25 #[] W fun r w' => r = .returned (pv P4.zero) ∧ Below W.heap.size W w' := by
  have S1 := hid (fun w => small_any 1 w (by decide))
  go_enter Tryd.func25, Tryd.ntmps25
  go_upto_region 1 with (fail)
  obtain ⟨w1, hw1⟩ : ∃ w1, W.alloc (.cells (pt 0 0 0 0 false) 46) = w1 := ⟨_, rfl⟩
  have kR := kept (show hget w1 (W.heap.size) = some (.cells (pt 0 0 0 0 false) 46 (0, 0)) by rw [← hw1]; clear hw1; go_simp)
  have b1 : Hid (Below W.heap.size W w1) := by rw [← hw1]; repeat (first | exact Below.refl _ _ | exact below_new _ | assumption | refine Below.drew ?_ | refine Below.drewN ?_ _ | refine below_alloc ?_ _ | refine below_blk' ?_ (by omega) _)
  rw [hw1]
  clear hw1
  try clear gR lR nR mR
  try clear jR
  have jR := kR.later
  obtain ⟨gR, lR, nR, mR⟩ := kR
  go_wp2_with fail
  refine (S1.out _).mono ?_
  rintro e w2 ⟨rfl, hb2⟩
  have kR := Kept.on (kept (b := W.heap.size) (o := .cells (pt 0 0 0 0 false) 46 (0, 0)) (by go_simp)) hb2
  have b2 : Hid (Below W.heap.size W w2) := below_to (by repeat (first | exact Below.refl _ _ | exact below_new _ | exact b1.out | assumption | refine Below.drew ?_ | refine Below.drewN ?_ _ | refine below_alloc ?_ _ | refine below_blk' ?_ (by omega) _)) hb2
  clear hb2
  try clear gR lR nR mR
  obtain ⟨gR, lR, nR, mR⟩ := kR
  clear b1
  go_wp2_with fail
  refine (S1.out _).mono ?_
  rintro e w3 ⟨rfl, hb3⟩
  have kR := Kept.on (kept (b := W.heap.size) (o := .cells (pt 0 0 0 0 false) 46 (0, 0)) (by go_simp)) hb3
  have b3 : Hid (Below W.heap.size W w3) := below_to (by repeat (first | exact Below.refl _ _ | exact below_new _ | exact b2.out | assumption | refine Below.drew ?_ | refine Below.drewN ?_ _ | refine below_alloc ?_ _ | refine below_blk' ?_ (by omega) _)) hb3
  clear hb3
  try clear gR lR nR mR
  obtain ⟨gR, lR, nR, mR⟩ := kR
  clear b2
  go_wp2_with fail
  refine bodyPost_ret (v := .agg (pt 0 1 1 0 true)) (results_cell_row Tryd.results25 _ _ (W.heap.size) 46 (pt 0 1 1 0 true) (0, 0) _ (by rfl) (by rw [← hget_eq]; go_simp) Tryd.underlying46 rfl (by rw [info_Pt]; go_simp)) rfl ?_
  exact ⟨rfl, below_blk' b3.out (by omega) _⟩

set_option maxRecDepth 100000 in
set_option maxHeartbeats 1000000 in
theorem ptwice_no (x y z t : Nat) (W : World) : Calls Tryd.prog 40 #[.agg (pt x y z t false)] W fun r w' => r = .returned noPt ∧ Below W.heap.size W w' := by
  go_enter Tryd.func40, Tryd.ntmps40
  go_upto_region 1 with (fail)
  obtain ⟨w1, hw1⟩ : ∃ w1, (W.alloc (.cells (pt x y z t false) 46)).alloc (.cells (pt 0 0 0 0 false) 46) = w1 := ⟨_, rfl⟩
  have kA := kept (show hget w1 (W.heap.size) = some (.cells (pt x y z t false) 46 (0, 0)) by rw [← hw1]; clear hw1; go_simp)
  have kR := kept (show hget w1 (W.heap.size + 1) = some (.cells (pt 0 0 0 0 false) 46 (0, 0)) by rw [← hw1]; clear hw1; go_simp)
  have b1 : Hid (Below W.heap.size W w1) := by rw [← hw1]; repeat (first | exact Below.refl _ _ | exact below_new _ | assumption | refine Below.drew ?_ | refine Below.drewN ?_ _ | refine below_alloc ?_ _ | refine below_blk' ?_ (by omega) _)
  rw [hw1]
  clear hw1
  try clear gA lA nA mA
  try clear jA
  have jA := kA.later
  obtain ⟨gA, lA, nA, mA⟩ := kA
  try clear gR lR nR mR
  try clear jR
  have jR := kR.later
  obtain ⟨gR, lR, nR, mR⟩ := kR
  have ci : w1.cell? ⟨W.heap.size, 16, none⟩ = some (.bool false) := (cell_at gA 16).trans (pt_is x y z t false)
  go_wp2_with fail
  refine bodyPost_ret (v := .agg (pt 0 0 0 0 false)) (results_cell_row Tryd.results40 _ _ (W.heap.size + 1) 46 (pt 0 0 0 0 false) (0, 0) _ (by rfl) (by rw [← hget_eq]; go_simp) Tryd.underlying46 rfl (by rw [info_Pt]; go_simp)) rfl ?_
  exact ⟨rfl, below_blk' b1.out (by omega) _⟩

set_option maxRecDepth 100000 in
set_option maxHeartbeats 4000000 in
theorem ptwice_core (x y z t a b c h s g : Nat) (W : World) (hx : x < p2) (hy : y < p2) (hz : z < p2)
    (ha : mulN x x = a) (hb : mulN y y = b) (hc : mulN z z = c) (hh : addN a b = h) (hs : addN x y = s) (hg : subN a b = g) :
    Calls Tryd.prog 40 #[.agg (pt x y z t true)] W fun r w' => r = .returned (.agg (pt (mulN (subN h (mulN s s)) (addN (addN c c) g)) (mulN g h) (mulN (addN (addN c c) g) g) (mulN (subN h (mulN s s)) h) true)) ∧ Below W.heap.size W w' := by
  have bA : a < p2 := ha ▸ mul_lt hx hx
  have bB : b < p2 := hb ▸ mul_lt hy hy
  have bC : c < p2 := hc ▸ mul_lt hz hz
  have bH : h < p2 := hh ▸ add_lt bA bB
  have bS : s < p2 := hs ▸ add_lt hx hy
  have bG : g < p2 := hg ▸ sub_lt bA bB
  have M1 := hid (fun w => ha ▸ mul_any x x w hx hx)
  have M2 := hid (fun w => hb ▸ mul_any y y w hy hy)
  have M3 := hid (fun w => hc ▸ mul_any z z w hz hz)
  have A1 := hid (fun w => hh ▸ add_any a b w bA bB)
  have A2 := hid (fun w => hs ▸ add_any x y w hx hy)
  have S1 := hid (fun w => hg ▸ sub_any a b w bA bB)
  have bM := mul_lt bS bS
  have M4 := hid (fun w => mul_any s s w bS bS)
  have S2 := hid (fun w => sub_any h (mulN s s) w bH bM)
  have bCC := add_lt bC bC
  have A3 := hid (fun w => add_any c c w bC bC)
  have A4 := hid (fun w => add_any (addN c c) g w bCC bG)
  have MD := hid (fun w => made_any (subN h (mulN s s)) (addN (addN c c) g) g h w (sub_lt bH bM) (add_lt bCC bG) bG bH)
  clear ha hb hc hh hs hg hx hy hz bA bB bC bH bS bG bM bCC
  go_enter Tryd.func40, Tryd.ntmps40
  go_upto_region 1 with (fail)
  obtain ⟨w1, hw1⟩ : ∃ w1, (W.alloc (.cells (pt x y z t true) 46)).alloc (.cells (pt 0 0 0 0 false) 46) = w1 := ⟨_, rfl⟩
  have kA := kept (show hget w1 (W.heap.size) = some (.cells (pt x y z t true) 46 (0, 0)) by rw [← hw1]; clear hw1; go_simp)
  have kR := kept (show hget w1 (W.heap.size + 1) = some (.cells (pt 0 0 0 0 false) 46 (0, 0)) by rw [← hw1]; clear hw1; go_simp)
  have b1 : Hid (Below W.heap.size W w1) := by rw [← hw1]; repeat (first | exact Below.refl _ _ | exact below_new _ | assumption | refine Below.drew ?_ | refine Below.drewN ?_ _ | refine below_alloc ?_ _ | refine below_blk' ?_ (by omega) _)
  rw [hw1]
  clear hw1
  try clear gA lA nA mA
  try clear jA
  have jA := kA.later
  obtain ⟨gA, lA, nA, mA⟩ := kA
  try clear gR lR nR mR
  try clear jR
  have jR := kR.later
  obtain ⟨gR, lR, nR, mR⟩ := kR
  have ci : w1.cell? ⟨W.heap.size, 16, none⟩ = some (.bool true) := (cell_at gA 16).trans (pt_is x y z t true)
  go_upto_region 3 with (fail)
  clear ci jA jR
  have vA : ∀ x_ : LaterV w1, hget x_.w' W.heap.size = some (.cells (pt x y z t true) 46 (0, 0)) := laterx_get gA (by simp)
  refine wp_region_var [15, 16, 17] (fun p => if p = 15 then ⟨18, quad 0, quad a, 44⟩ else if p = 16 then ⟨19, quad 0, quad b, 44⟩ else ⟨20, quad 0, quad c, 44⟩) [] (fun _ => ⟨0, #[], #[], 0⟩) (by kernel_rfl) (by kernel_rfl) (by kernel_rfl) (vsep_new (by kernel_rfl)) (fun e he => absurd he (by simp)) (fun hsep => ?_) (fun e he => absurd he (by simp))
  have HSEP := hid hsep
  clear hsep
  repeat (first | (refine wpV_plain0 HSEP.out (by kernel_rfl) (by rfl) (by rfl) (by kernel_rfl) (by kernel_rfl) (fun K hK => ?_); go_simp; refine hK _ ?_; clear hK K; try go_ints) | (refine wpV_plain0 HSEP.out (by kernel_rfl) (by rfl) (by rfl) (by kernel_rfl) (by kernel_rfl) (fun K hK => ?_); go_simp; (with_reducible refine ⟨_, fun x => M1.out _, hK _ ?_⟩); clear hK K; try go_ints) | (refine wpV_plain0 HSEP.out (by kernel_rfl) (by rfl) (by rfl) (by kernel_rfl) (by kernel_rfl) (fun K hK => ?_); go_simp; (with_reducible refine ⟨_, fun x => M2.out _, hK _ ?_⟩); clear hK K; try go_ints) | (refine wpV_plain0 HSEP.out (by kernel_rfl) (by rfl) (by rfl) (by kernel_rfl) (by kernel_rfl) (fun K hK => ?_); go_simp; (with_reducible refine ⟨_, fun x => M3.out _, hK _ ?_⟩); clear hK K; try go_ints) | (refine wpV_make0 HSEP.out (by kernel_rfl) (by rfl) rfl (by rfl) (by kernel_rfl) (by kernel_rfl) (fun K hK => ⟨fun x => (by first | (go_simp; done) | (go_simp; rfl)), hK _ ?_⟩); clear hK K; try go_ints) | (refine wpV_store0 15 (by rfl) (by rfl) HSEP.out (by rfl) rfl (by kernel_rfl) (fun K hK => ⟨fun g bk_ x cs hg hcs hx => (by clear hK HSEP; rcases hcs with hcs | hcs <;> (rw [hcs] at hx; clear hcs; simp only [over, dstOf, List.getElem?_toArray, List.getElem?_cons_succ, List.getElem?_cons_zero, Option.bind_some, hg]; go_simp; done)), hK _ ?_⟩); clear hK K; try go_ints) | (refine wpV_store0 16 (by rfl) (by rfl) HSEP.out (by rfl) rfl (by kernel_rfl) (fun K hK => ⟨fun g bk_ x cs hg hcs hx => (by clear hK HSEP; rcases hcs with hcs | hcs <;> (rw [hcs] at hx; clear hcs; simp only [over, dstOf, List.getElem?_toArray, List.getElem?_cons_succ, List.getElem?_cons_zero, Option.bind_some, hg]; go_simp; done)), hK _ ?_⟩); clear hK K; try go_ints) | (refine wpV_store0 17 (by rfl) (by rfl) HSEP.out (by rfl) rfl (by kernel_rfl) (fun K hK => ⟨fun g bk_ x cs hg hcs hx => (by clear hK HSEP; rcases hcs with hcs | hcs <;> (rw [hcs] at hx; clear hcs; simp only [over, dstOf, List.getElem?_toArray, List.getElem?_cons_succ, List.getElem?_cons_zero, Option.bind_some, hg]; go_simp; done)), hK _ ?_⟩); clear hK K; try go_ints))
  refine wpGho_nil ?_
  intro gL xL h0L hnL haL hlL
  clear h0L hlL HSEP
  obtain ⟨v15, e15, l15, h15⟩ := hnL 15 (by simp)
  try simp at h15
  obtain ⟨v16, e16, l16, h16⟩ := hnL 16 (by simp)
  try simp at h16
  obtain ⟨v17, e17, l17, h17⟩ := hnL 17 (by simp)
  try simp at h17
  simp only [over, dstOf, List.getElem?_toArray, List.getElem?_cons_succ, List.getElem?_cons_zero, Option.bind_some, e15, e16, e17]
  have hxb := laterV_below xL
  have fA := vA xL
  have fR := laterx_get gR (by simp) xL
  clear hnL haL e15 e16 e17 vA
  generalize xL.w' = w2 at *
  have b2 := hid (below_to b1.out hxb)
  have b1s := b1.out.size
  clear hxb b1 gA lA nA mA gR lR nR mR M1 M2 M3
  obtain ⟨gA, lA, nA, mA⟩ := kept (show hget w2 (W.heap.size) = some (.cells (pt x y z t true) 46 (0, 0)) by first | assumption | go_simp)
  obtain ⟨gR, lR, nR, mR⟩ := kept (show hget w2 (W.heap.size + 1) = some (.cells (pt 0 0 0 0 false) 46 (0, 0)) by first | assumption | go_simp)
  obtain ⟨gX, lX, nX, mX⟩ := kept (show hget w2 (v15) = some (.cells (quad a) 44 (0, 0)) by first | assumption | go_simp)
  obtain ⟨gY, lY, nY, mY⟩ := kept (show hget w2 (v16) = some (.cells (quad b) 44 (0, 0)) by first | assumption | go_simp)
  obtain ⟨gZ, lZ, nZ, mZ⟩ := kept (show hget w2 (v17) = some (.cells (quad c) 44 (0, 0)) by first | assumption | go_simp)
  clear fA fR h15 h16 h17
  go_wp2_with fail
  try clear jA jR jX jY jZ
  refine (A1.out _).mono ?_
  rintro e w3 ⟨rfl, hb3⟩
  have kA := Kept.on (kept (b := W.heap.size) (o := .cells (pt x y z t true) 46 (0, 0)) (by go_simp)) hb3
  have kR := Kept.on (kept (b := W.heap.size + 1) (o := .cells (pt 0 0 0 0 false) 46 (0, 0)) (by go_simp)) hb3
  have kX := Kept.on (kept (b := v15) (o := .cells (quad a) 44 (0, 0)) (by go_simp)) hb3
  have kY := Kept.on (kept (b := v16) (o := .cells (quad b) 44 (0, 0)) (by go_simp)) hb3
  have kZ := Kept.on (kept (b := v17) (o := .cells (quad c) 44 (0, 0)) (by go_simp)) hb3
  have b3 : Hid (Below W.heap.size W w3) := below_to (by repeat (first | exact Below.refl _ _ | exact below_new _ | exact b2.out | assumption | refine Below.drew ?_ | refine Below.drewN ?_ _ | refine below_alloc ?_ _ | refine below_blk' ?_ (by omega) _)) hb3
  clear hb3
  try clear gA lA nA mA
  obtain ⟨gA, lA, nA, mA⟩ := kA
  try clear gR lR nR mR
  obtain ⟨gR, lR, nR, mR⟩ := kR
  try clear gX lX nX mX
  obtain ⟨gX, lX, nX, mX⟩ := kX
  try clear gY lY nY mY
  obtain ⟨gY, lY, nY, mY⟩ := kY
  try clear gZ lZ nZ mZ
  obtain ⟨gZ, lZ, nZ, mZ⟩ := kZ
  clear b2
  go_upto_region 5 with (fail)
  obtain ⟨H, hH⟩ : ∃ b, w3.heap.size = b := ⟨_, rfl⟩
  have wH : W.heap.size ≤ H := by rw [← hH]; exact b3.out.size
  have eAH : (W.heap.size = H) = False := by rw [← hH]; exact nA
  have eHA : (H = W.heap.size) = False := by rw [← hH]; exact mA
  have eRH : (W.heap.size + 1 = H) = False := by rw [← hH]; exact nR
  have eHR : (H = W.heap.size + 1) = False := by rw [← hH]; exact mR
  have eXH : (v15 = H) = False := by rw [← hH]; exact nX
  have eHX : (H = v15) = False := by rw [← hH]; exact mX
  have eYH : (v16 = H) = False := by rw [← hH]; exact nY
  have eHY : (H = v16) = False := by rw [← hH]; exact mY
  have eZH : (v17 = H) = False := by rw [← hH]; exact nZ
  have eHZ : (H = v17) = False := by rw [← hH]; exact mZ
  obtain ⟨w4, hw4⟩ : ∃ w4, w3.alloc (.cells (quad h) 44) = w4 := ⟨_, rfl⟩
  have kA := kept (show hget w4 (W.heap.size) = some (.cells (pt x y z t true) 46 (0, 0)) by rw [← hw4]; clear hw4; go_simp)
  have kR := kept (show hget w4 (W.heap.size + 1) = some (.cells (pt 0 0 0 0 false) 46 (0, 0)) by rw [← hw4]; clear hw4; go_simp)
  have kX := kept (show hget w4 (v15) = some (.cells (quad a) 44 (0, 0)) by rw [← hw4]; clear hw4; go_simp)
  have kY := kept (show hget w4 (v16) = some (.cells (quad b) 44 (0, 0)) by rw [← hw4]; clear hw4; go_simp)
  have kZ := kept (show hget w4 (v17) = some (.cells (quad c) 44 (0, 0)) by rw [← hw4]; clear hw4; go_simp)
  have kH := kept (show hget w4 (w3.heap.size) = some (.cells (quad h) 44) by rw [← hw4]; clear hw4; go_simp)
  have b4 : Hid (Below W.heap.size W w4) := by rw [← hw4]; repeat (first | exact Below.refl _ _ | exact below_new _ | exact b3.out | assumption | refine Below.drew ?_ | refine Below.drewN ?_ _ | refine below_alloc ?_ _ | refine below_blk' ?_ (by omega) _)
  rw [hw4]
  clear hw4
  try clear gA lA nA mA
  try clear jA
  have jA := kA.later
  obtain ⟨gA, lA, nA, mA⟩ := kA
  try clear gR lR nR mR
  try clear jR
  have jR := kR.later
  obtain ⟨gR, lR, nR, mR⟩ := kR
  try clear gX lX nX mX
  try clear jX
  have jX := kX.later
  obtain ⟨gX, lX, nX, mX⟩ := kX
  try clear gY lY nY mY
  try clear jY
  have jY := kY.later
  obtain ⟨gY, lY, nY, mY⟩ := kY
  try clear gZ lZ nZ mZ
  try clear jZ
  have jZ := kZ.later
  obtain ⟨gZ, lZ, nZ, mZ⟩ := kZ
  try clear gH lH nH mH
  try clear jH
  have jH := kH.later
  obtain ⟨gH, lH, nH, mH⟩ := kH
  clear b3
  rw [hH] at *
  clear hH
  go_wp2_with fail
  try clear jA jR jX jY jZ jH
  refine (A2.out _).mono ?_
  rintro e w5 ⟨rfl, hb5⟩
  have kA := Kept.on (kept (b := W.heap.size) (o := .cells (pt x y z t true) 46 (0, 0)) (by go_simp)) hb5
  have kR := Kept.on (kept (b := W.heap.size + 1) (o := .cells (pt 0 0 0 0 false) 46 (0, 0)) (by go_simp)) hb5
  have kX := Kept.on (kept (b := v15) (o := .cells (quad a) 44 (0, 0)) (by go_simp)) hb5
  have kY := Kept.on (kept (b := v16) (o := .cells (quad b) 44 (0, 0)) (by go_simp)) hb5
  have kZ := Kept.on (kept (b := v17) (o := .cells (quad c) 44 (0, 0)) (by go_simp)) hb5
  have kH := Kept.on (kept (b := H) (o := .cells (quad h) 44 (0, 0)) (by go_simp)) hb5
  have b5 : Hid (Below W.heap.size W w5) := below_to (by repeat (first | exact Below.refl _ _ | exact below_new _ | exact b4.out | assumption | refine Below.drew ?_ | refine Below.drewN ?_ _ | refine below_alloc ?_ _ | refine below_blk' ?_ (by omega) _)) hb5
  clear hb5
  try clear gA lA nA mA
  obtain ⟨gA, lA, nA, mA⟩ := kA
  try clear gR lR nR mR
  obtain ⟨gR, lR, nR, mR⟩ := kR
  try clear gX lX nX mX
  obtain ⟨gX, lX, nX, mX⟩ := kX
  try clear gY lY nY mY
  obtain ⟨gY, lY, nY, mY⟩ := kY
  try clear gZ lZ nZ mZ
  obtain ⟨gZ, lZ, nZ, mZ⟩ := kZ
  try clear gH lH nH mH
  obtain ⟨gH, lH, nH, mH⟩ := kH
  clear b4
  go_upto_region 6 with (fail)
  obtain ⟨S, hS⟩ : ∃ b, w5.heap.size = b := ⟨_, rfl⟩
  have wS : W.heap.size ≤ S := by rw [← hS]; exact b5.out.size
  have eAS : (W.heap.size = S) = False := by rw [← hS]; exact nA
  have eSA : (S = W.heap.size) = False := by rw [← hS]; exact mA
  have eRS : (W.heap.size + 1 = S) = False := by rw [← hS]; exact nR
  have eSR : (S = W.heap.size + 1) = False := by rw [← hS]; exact mR
  have eXS : (v15 = S) = False := by rw [← hS]; exact nX
  have eSX : (S = v15) = False := by rw [← hS]; exact mX
  have eYS : (v16 = S) = False := by rw [← hS]; exact nY
  have eSY : (S = v16) = False := by rw [← hS]; exact mY
  have eZS : (v17 = S) = False := by rw [← hS]; exact nZ
  have eSZ : (S = v17) = False := by rw [← hS]; exact mZ
  have eHS : (H = S) = False := by rw [← hS]; exact nH
  have eSH : (S = H) = False := by rw [← hS]; exact mH
  obtain ⟨w6, hw6⟩ : ∃ w6, w5.alloc (.cells (quad s) 44) = w6 := ⟨_, rfl⟩
  have kA := kept (show hget w6 (W.heap.size) = some (.cells (pt x y z t true) 46 (0, 0)) by rw [← hw6]; clear hw6; go_simp)
  have kR := kept (show hget w6 (W.heap.size + 1) = some (.cells (pt 0 0 0 0 false) 46 (0, 0)) by rw [← hw6]; clear hw6; go_simp)
  have kX := kept (show hget w6 (v15) = some (.cells (quad a) 44 (0, 0)) by rw [← hw6]; clear hw6; go_simp)
  have kY := kept (show hget w6 (v16) = some (.cells (quad b) 44 (0, 0)) by rw [← hw6]; clear hw6; go_simp)
  have kZ := kept (show hget w6 (v17) = some (.cells (quad c) 44 (0, 0)) by rw [← hw6]; clear hw6; go_simp)
  have kH := kept (show hget w6 (H) = some (.cells (quad h) 44 (0, 0)) by rw [← hw6]; clear hw6; go_simp)
  have kS := kept (show hget w6 (w5.heap.size) = some (.cells (quad s) 44) by rw [← hw6]; clear hw6; go_simp)
  have b6 : Hid (Below W.heap.size W w6) := by rw [← hw6]; repeat (first | exact Below.refl _ _ | exact below_new _ | exact b5.out | assumption | refine Below.drew ?_ | refine Below.drewN ?_ _ | refine below_alloc ?_ _ | refine below_blk' ?_ (by omega) _)
  rw [hw6]
  clear hw6
  try clear gA lA nA mA
  try clear jA
  have jA := kA.later
  obtain ⟨gA, lA, nA, mA⟩ := kA
  try clear gR lR nR mR
  try clear jR
  have jR := kR.later
  obtain ⟨gR, lR, nR, mR⟩ := kR
  try clear gX lX nX mX
  try clear jX
  have jX := kX.later
  obtain ⟨gX, lX, nX, mX⟩ := kX
  try clear gY lY nY mY
  try clear jY
  have jY := kY.later
  obtain ⟨gY, lY, nY, mY⟩ := kY
  try clear gZ lZ nZ mZ
  try clear jZ
  have jZ := kZ.later
  obtain ⟨gZ, lZ, nZ, mZ⟩ := kZ
  try clear gH lH nH mH
  try clear jH
  have jH := kH.later
  obtain ⟨gH, lH, nH, mH⟩ := kH
  try clear gS lS nS mS
  try clear jS
  have jS := kS.later
  obtain ⟨gS, lS, nS, mS⟩ := kS
  clear b5
  rw [hS] at *
  clear hS
  go_wp2_with fail
  try clear jA jR jX jY jZ jH jS
  refine (S1.out _).mono ?_
  rintro e w7 ⟨rfl, hb7⟩
  have kA := Kept.on (kept (b := W.heap.size) (o := .cells (pt x y z t true) 46 (0, 0)) (by go_simp)) hb7
  have kR := Kept.on (kept (b := W.heap.size + 1) (o := .cells (pt 0 0 0 0 false) 46 (0, 0)) (by go_simp)) hb7
  have kX := Kept.on (kept (b := v15) (o := .cells (quad a) 44 (0, 0)) (by go_simp)) hb7
  have kY := Kept.on (kept (b := v16) (o := .cells (quad b) 44 (0, 0)) (by go_simp)) hb7
  have kZ := Kept.on (kept (b := v17) (o := .cells (quad c) 44 (0, 0)) (by go_simp)) hb7
  have kH := Kept.on (kept (b := H) (o := .cells (quad h) 44 (0, 0)) (by go_simp)) hb7
  have kS := Kept.on (kept (b := S) (o := .cells (quad s) 44 (0, 0)) (by go_simp)) hb7
  have b7 : Hid (Below W.heap.size W w7) := below_to (by repeat (first | exact Below.refl _ _ | exact below_new _ | exact b6.out | assumption | refine Below.drew ?_ | refine Below.drewN ?_ _ | refine below_alloc ?_ _ | refine below_blk' ?_ (by omega) _)) hb7
  clear hb7
  try clear gA lA nA mA
  obtain ⟨gA, lA, nA, mA⟩ := kA
  try clear gR lR nR mR
  obtain ⟨gR, lR, nR, mR⟩ := kR
  try clear gX lX nX mX
  obtain ⟨gX, lX, nX, mX⟩ := kX
  try clear gY lY nY mY
  obtain ⟨gY, lY, nY, mY⟩ := kY
  try clear gZ lZ nZ mZ
  obtain ⟨gZ, lZ, nZ, mZ⟩ := kZ
  try clear gH lH nH mH
  obtain ⟨gH, lH, nH, mH⟩ := kH
  try clear gS lS nS mS
  obtain ⟨gS, lS, nS, mS⟩ := kS
  clear b6
  go_upto_region 7 with (fail)
  obtain ⟨G, hG⟩ : ∃ b, w7.heap.size = b := ⟨_, rfl⟩
  have wG : W.heap.size ≤ G := by rw [← hG]; exact b7.out.size
  have eAG : (W.heap.size = G) = False := by rw [← hG]; exact nA
  have eGA : (G = W.heap.size) = False := by rw [← hG]; exact mA
  have eRG : (W.heap.size + 1 = G) = False := by rw [← hG]; exact nR
  have eGR : (G = W.heap.size + 1) = False := by rw [← hG]; exact mR
  have eXG : (v15 = G) = False := by rw [← hG]; exact nX
  have eGX : (G = v15) = False := by rw [← hG]; exact mX
  have eYG : (v16 = G) = False := by rw [← hG]; exact nY
  have eGY : (G = v16) = False := by rw [← hG]; exact mY
  have eZG : (v17 = G) = False := by rw [← hG]; exact nZ
  have eGZ : (G = v17) = False := by rw [← hG]; exact mZ
  have eHG : (H = G) = False := by rw [← hG]; exact nH
  have eGH : (G = H) = False := by rw [← hG]; exact mH
  have eSG : (S = G) = False := by rw [← hG]; exact nS
  have eGS : (G = S) = False := by rw [← hG]; exact mS
  obtain ⟨w8, hw8⟩ : ∃ w8, w7.alloc (.cells (quad g) 44) = w8 := ⟨_, rfl⟩
  have kA := kept (show hget w8 (W.heap.size) = some (.cells (pt x y z t true) 46 (0, 0)) by rw [← hw8]; clear hw8; go_simp)
  have kR := kept (show hget w8 (W.heap.size + 1) = some (.cells (pt 0 0 0 0 false) 46 (0, 0)) by rw [← hw8]; clear hw8; go_simp)
  have kX := kept (show hget w8 (v15) = some (.cells (quad a) 44 (0, 0)) by rw [← hw8]; clear hw8; go_simp)
  have kY := kept (show hget w8 (v16) = some (.cells (quad b) 44 (0, 0)) by rw [← hw8]; clear hw8; go_simp)
  have kZ := kept (show hget w8 (v17) = some (.cells (quad c) 44 (0, 0)) by rw [← hw8]; clear hw8; go_simp)
  have kH := kept (show hget w8 (H) = some (.cells (quad h) 44 (0, 0)) by rw [← hw8]; clear hw8; go_simp)
  have kS := kept (show hget w8 (S) = some (.cells (quad s) 44 (0, 0)) by rw [← hw8]; clear hw8; go_simp)
  have kG := kept (show hget w8 (w7.heap.size) = some (.cells (quad g) 44) by rw [← hw8]; clear hw8; go_simp)
  have b8 : Hid (Below W.heap.size W w8) := by rw [← hw8]; repeat (first | exact Below.refl _ _ | exact below_new _ | exact b7.out | assumption | refine Below.drew ?_ | refine Below.drewN ?_ _ | refine below_alloc ?_ _ | refine below_blk' ?_ (by omega) _)
  rw [hw8]
  clear hw8
  try clear gA lA nA mA
  try clear jA
  have jA := kA.later
  obtain ⟨gA, lA, nA, mA⟩ := kA
  try clear gR lR nR mR
  try clear jR
  have jR := kR.later
  obtain ⟨gR, lR, nR, mR⟩ := kR
  try clear gX lX nX mX
  try clear jX
  have jX := kX.later
  obtain ⟨gX, lX, nX, mX⟩ := kX
  try clear gY lY nY mY
  try clear jY
  have jY := kY.later
  obtain ⟨gY, lY, nY, mY⟩ := kY
  try clear gZ lZ nZ mZ
  try clear jZ
  have jZ := kZ.later
  obtain ⟨gZ, lZ, nZ, mZ⟩ := kZ
  try clear gH lH nH mH
  try clear jH
  have jH := kH.later
  obtain ⟨gH, lH, nH, mH⟩ := kH
  try clear gS lS nS mS
  try clear jS
  have jS := kS.later
  obtain ⟨gS, lS, nS, mS⟩ := kS
  try clear gG lG nG mG
  try clear jG
  have jG := kG.later
  obtain ⟨gG, lG, nG, mG⟩ := kG
  clear b7
  rw [hG] at *
  clear hG
  clear A1 A2 S1 jA gA jX jY gX gY
  refine wp_region_later_tail 13 (by kernel_rfl) (by kernel_rfl) ?_
  simp only [List.take_succ_cons, List.take_zero, List.drop_succ_cons, List.drop_zero]
  repeat ((go_big_quiet_step ((first | (go_at_call 27; with_reducible exact calls_later (M4.out _)) | (go_at_call 35; with_reducible exact calls_later (S2.out _)) | (go_at_call 37; first | with_reducible exact calls_later (A3.out _) | with_reducible exact calls_later (A4.out _)) | (go_at_call 41; with_reducible exact calls_later (MD.out _))))))
  refine wpQuiet_nil ?_
  intro wL hwL
  obtain ⟨⟨w8, hL⟩, e8⟩ := hwL
  change wL = w8 at e8
  subst e8
  obtain ⟨gR, lR, nR, mR⟩ := kept (jR ⟨_, hL⟩)
  go_wp2_with fail
  refine bodyPost_ret (v := .agg (pt (mulN (subN h (mulN s s)) (addN (addN c c) g)) (mulN g h) (mulN (addN (addN c c) g) g) (mulN (subN h (mulN s s)) h) true)) (results_cell_row Tryd.results40 _ _ (W.heap.size + 1) 46 (pt (mulN (subN h (mulN s s)) (addN (addN c c) g)) (mulN g h) (mulN (addN (addN c c) g) g) (mulN (subN h (mulN s s)) h) true) (0, 0) _ (by rfl) (by rw [← hget_eq]; go_simp) Tryd.underlying46 rfl (by rw [info_Pt]; go_simp)) rfl ?_
  exact ⟨rfl, below_blk' (below_to b8.out hL) (by omega) _⟩
set_option maxRecDepth 100000 in
theorem ptwice_v (s : P4) (W : World) (h : s.bd) : Calls Tryd.prog 40 #[pv s] W fun r w' => r = .returned (pv s.twice) ∧ Below W.heap.size W w' :=
  ptwice_core s.x s.y s.z s.t _ _ _ _ _ _ W h.x h.y h.z rfl rfl rfl rfl rfl rfl

end Go.Proofs.YtceljjnohjnepaaDoor

namespace Go.Proofs.YtceljjnohjnepaaDoor
open Go Go.RowKit
set_option maxRecDepth 100000 in
theorem conv_byte (c : Nat) (hc : c < 256) (w : World) (b : Nat) (h0 : w.cell? ⟨b, 0, none⟩ = some (.int .u8 (c : Int))) : (convert 27 9 (.slice (some ⟨b, 0, none⟩) 1 1)).run Tryd.prog w = .ok (.string ⟨#[UInt8.ofNat c]⟩) w :=
  conv_string w b 0 1 1 [UInt8.ofNat c] rfl (fun j hj => by
    obtain rfl : j = 0 := by omega
    rw [Nat.zero_add, h0]
    show some (Value.int .u8 (c : Int)) = some (Value.int .u8 (((UInt8.ofNat c).toNat : Nat) : Int))
    rw [UInt8.toNat_ofNat', Nat.mod_eq_of_lt hc])
end Go.Proofs.YtceljjnohjnepaaDoor

namespace Go.Proofs.YtceljjnohjnepaaDoor
open DG

def t255 : Nat := 57896044618658097711785492504343953926634992332820282019728792003956564819968
def t248 : Nat := 452312848583266388373324160190187140051835877600158453279131187530910662656
def encN (n : Nat) (od : Bool) : Nat := n + if od then t255 else 0
def encB (n : Nat) (od : Bool) : ByteArray := ⟨(natBytes (encN n od) 32).toArray⟩
/-- A text with another last byte. -/
def topB (s : ByteArray) (x : UInt8) : ByteArray := s.extract 0 31 ++ ⟨#[x]⟩
set_option maxRecDepth 100000 in
theorem topB_list (s : ByteArray) (x : UInt8) : (topB s x).data.toList = s.data.toList.take 31 ++ [x] := by
  unfold topB
  rw [ByteArray.data_append, ByteArray.data_extract, Array.toList_append, Array.toList_extract, List.extract_eq_take_drop]
  simp
set_option maxRecDepth 100000 in
theorem topB_size {s : ByteArray} (h : s.size = 32) (x : UInt8) : (topB s x).size = 32 := by
  unfold topB
  rw [ByteArray.size_append, ByteArray.size_extract, h]
  rfl
set_option maxRecDepth 100000 in
theorem top_nat (l : List UInt8) (h : l.length = 32) (x : UInt8) : bytesNat (l.take 31 ++ [x]) = bytesNat (l.take 31) + x.toNat * t248 := by
  have hl : (l.take 31 ++ [x]).length = 32 := by rw [List.length_append, List.length_take, h]; rfl
  have h1 := bytesNat_take_succ (l.take 31 ++ [x]) 31 (by omega)
  rw [List.take_of_length_le (by omega), List.take_append_of_le_length (by rw [List.length_take, h]; decide)] at h1
  simp only [List.take_take, Nat.min_self] at h1
  have hg : (l.take 31 ++ [x])[31]'(by omega) = x := by
    rw [List.getElem_append_right (by rw [List.length_take, h]; decide)]
    simp [List.length_take, h]
  rw [h1, hg]
  rfl
set_option maxRecDepth 100000 in
theorem low_lt (l : List UInt8) : bytesNat (l.take 31) < t248 := by
  have h := bytesNat_lt (l.take 31)
  have e : (l.take 31).length ≤ 31 := by rw [List.length_take]; omega
  exact Nat.lt_of_lt_of_le h (Nat.le_trans (Nat.pow_le_pow_right (by decide) e) (Nat.le_of_eq (by decide)))
set_option maxRecDepth 100000 in
theorem split_nat (l : List UInt8) (h : l.length = 32) : bytesNat l = bytesNat (l.take 31) + (l[31]'(by omega)).toNat * t248 := by
  have h1 := bytesNat_take_succ l 31 (by omega)
  rw [List.take_of_length_le (by omega)] at h1
  exact h1
set_option maxRecDepth 100000 in
theorem or128 : ∀ n : Nat, n < 128 → n ||| 128 = n + 128 := by decide
set_option maxRecDepth 100000 in
theorem u8_or128 (x : UInt8) (h : x.toNat < 128) : (x ||| 128).toNat = x.toNat + 128 := by
  rw [UInt8.toNat_or]
  exact or128 x.toNat h
set_option maxRecDepth 100000 in
theorem and127' : ∀ n : Nat, n < 256 → n &&& 127 = n % 128 := by decide
set_option maxRecDepth 100000 in
theorem u8_and127 (x : UInt8) : (x &&& 127).toNat = x.toNat % 128 := by
  rw [UInt8.toNat_and]
  exact and127' x.toNat x.toNat_lt
set_option maxRecDepth 100000 in
theorem and128' : ∀ n : Nat, n < 256 → n &&& 128 = if n < 128 then 0 else 128 := by decide
set_option maxRecDepth 100000 in
theorem enc_lt {n : Nat} (h : n < t255) (od : Bool) : encN n od < p2 := by
  unfold encN t255 p2 at *
  cases od
  · simp; omega
  · simp; omega
set_option maxRecDepth 100000 in
theorem enc_list (n : Nat) (od : Bool) : (encB n od).data.toList = natBytes (encN n od) 32 := by unfold encB; rfl
set_option maxRecDepth 100000 in
theorem enc_size (n : Nat) (od : Bool) : (encB n od).size = 32 := by
  show (natBytes (encN n od) 32).toArray.size = 32
  simp [natBytes_length]
set_option maxRecDepth 100000 in
theorem enc_nat {n : Nat} (h : n < t255) (od : Bool) : bytesNat (encB n od).data.toList = encN n od := by
  rw [enc_list, bytesNat_natBytes]
  exact Nat.mod_eq_of_lt (Nat.lt_of_lt_of_eq (enc_lt h od) (by decide))
set_option maxRecDepth 100000 in
theorem ba_ext {s u : ByteArray} (h : s.data.toList = u.data.toList) : s = u := by
  cases s; cases u
  congr 1
  exact Array.toList_inj.1 h
set_option maxRecDepth 100000 in
/-- The bit set above. -/
theorem or_nat {s : ByteArray} (h : s.size = 32) (hs : 31 < s.size) (hlt : bytesNat s.data.toList < t255) : bytesNat (topB s (s[31] ||| 128)).data.toList = bytesNat s.data.toList + t255 := by
  have hl : s.data.toList.length = 32 := by simpa using h
  have h1 := split_nat _ hl
  have h0 := low_lt s.data.toList
  have hg : s.data.toList[31]'(by omega) = s[31] := rfl
  rw [hg] at h1
  have hx : s[31].toNat < 128 := by
    generalize bytesNat s.data.toList = m at *
    generalize bytesNat (s.data.toList.take 31) = lo at *
    generalize s[31].toNat = x at *
    unfold t255 t248 at *
    omega
  rw [topB_list, top_nat _ hl, u8_or128 _ hx, h1]
  generalize bytesNat (s.data.toList.take 31) = lo at *
  generalize s[31].toNat = x at *
  clear h1 hlt
  unfold t255 t248 at *
  omega
set_option maxRecDepth 100000 in
theorem enc_top {n : Nat} (h : n < t255) {s : ByteArray} (he : encB n false = s) (hs : 31 < s.size) : topB s (s[31] ||| 128) = encB n true := by
  have h32 : s.size = 32 := he ▸ enc_size n false
  have hn : bytesNat s.data.toList = n := by rw [← he, enc_nat h]; rfl
  refine ba_ext (bytesNat_inj (by rw [topB_list, List.length_append, List.length_take, enc_list, natBytes_length, show s.data.toList.length = 32 by simpa using h32]; rfl) ?_)
  rw [or_nat h32 hs (by rw [hn]; exact h), hn, enc_nat h]
  rfl
set_option maxRecDepth 100000 in
/-- The bit taken away. -/
theorem dec_nat {s : ByteArray} (h : s.size = 32) (hs : 31 < s.size) : bytesNat (topB s (s[31] &&& 127)).data.toList = bytesNat s.data.toList % t255 := by
  have hl : s.data.toList.length = 32 := by simpa using h
  have h1 := split_nat _ hl
  have h0 := low_lt s.data.toList
  have hg : s.data.toList[31]'(by omega) = s[31] := rfl
  rw [hg] at h1
  rw [topB_list, top_nat _ hl, u8_and127, h1]
  generalize bytesNat (s.data.toList.take 31) = lo at *
  have hx : s[31].toNat < 256 := s[31].toNat_lt
  generalize s[31].toNat = x at *
  clear h1
  unfold t255 t248 at *
  omega
set_option maxRecDepth 100000 in
theorem dec_odd {s : ByteArray} (h : s.size = 32) (hs : 31 < s.size) : ((s[31].toNat &&& 128 : Nat) ≠ 0) ↔ t255 ≤ bytesNat s.data.toList := by
  have hl : s.data.toList.length = 32 := by simpa using h
  have h1 := split_nat _ hl
  have h0 := low_lt s.data.toList
  have hg : s.data.toList[31]'(by omega) = s[31] := rfl
  rw [hg] at h1
  have hx : s[31].toNat < 256 := s[31].toNat_lt
  rw [h1, and128' _ hx]
  generalize bytesNat (s.data.toList.take 31) = lo at *
  generalize s[31].toNat = x at *
  clear h1
  unfold t255 t248 at *
  split <;> omega
set_option maxRecDepth 100000 in
theorem enc_dec {s : ByteArray} (h : s.size = 32) : encB (bytesNat s.data.toList % t255) (decide (t255 ≤ bytesNat s.data.toList)) = s := by
  have hl : s.data.toList.length = 32 := by simpa using h
  have h2 : bytesNat s.data.toList < p2 := by
    have := bytesNat_lt s.data.toList
    rw [hl] at this
    exact Nat.lt_of_lt_of_eq this (by decide)
  have hm : bytesNat s.data.toList % t255 < t255 := Nat.mod_lt _ (by decide)
  refine ba_ext (bytesNat_inj (by rw [enc_list, natBytes_length, hl]) ?_)
  rw [enc_nat hm]
  generalize bytesNat s.data.toList = m at *
  unfold encN t255 p2 at *
  split
  · rename_i hd
    rw [decide_eq_true_eq] at hd
    omega
  · rename_i hd
    rw [decide_eq_true_eq] at hd
    omega
set_option maxRecDepth 100000 in
theorem enc_inj {n m : Nat} {a b : Bool} (hn : n < t255) (hm : m < t255) (h : encB n a = encB m b) : n = m ∧ a = b := by
  have h1 := enc_nat hn a
  rw [h, enc_nat hm b] at h1
  unfold encN t255 at *
  cases a <;> cases b <;> simp at h1 <;> first | (constructor <;> first | omega | rfl) | (exfalso; omega)
set_option maxRecDepth 100000 in
theorem pP_255 : pP < t255 := by decide +kernel
end Go.Proofs.YtceljjnohjnepaaDoor

namespace Go.Proofs.YtceljjnohjnepaaDoor
open Go Go.RowKit DG
attribute [local go_sem ↓] exl_Elem exs_Elem exl_Pt exs_Pt exb_Pt
                    attribute [local go_sem] ldm_Elem str_Elem ldr_Pt str_Pt to_quad0 pt_zero bld_pt bld_pt0

set_option maxRecDepth 100000 in
set_option maxHeartbeats 1000000 in
theorem psame_no (x y z t x' y' z' t' : Nat) (i j : Bool) (W : World) (h : (i && j) = false) : Calls Tryd.prog 22 #[.agg (pt x y z t i), .agg (pt x' y' z' t' j)] W fun r w' => r = .returned (.bool false) ∧ Below W.heap.size W w' := by
  go_enter Tryd.func22, Tryd.ntmps22
  go_upto_region 1 with (fail)
  obtain ⟨w1, hw1⟩ : ∃ w1, (W.alloc (.cells (pt x y z t i) 46)).alloc (.cells (pt x' y' z' t' j) 46) = w1 := ⟨_, rfl⟩
  have kA := kept (show hget w1 (W.heap.size) = some (.cells (pt x y z t i) 46 (0, 0)) by rw [← hw1]; clear hw1; go_simp)
  have kB := kept (show hget w1 (W.heap.size + 1) = some (.cells (pt x' y' z' t' j) 46 (0, 0)) by rw [← hw1]; clear hw1; go_simp)
  have b1 : Hid (Below W.heap.size W w1) := by rw [← hw1]; repeat (first | exact Below.refl _ _ | exact below_new _ | assumption | refine Below.drew ?_ | refine Below.drewN ?_ _ | refine below_alloc ?_ _ | refine below_blk' ?_ (by omega) _)
  rw [hw1]
  clear hw1
  try clear gA lA nA mA
  try clear jA
  have jA := kA.later
  obtain ⟨gA, lA, nA, mA⟩ := kA
  try clear gB lB nB mB
  try clear jB
  have jB := kB.later
  obtain ⟨gB, lB, nB, mB⟩ := kB
  have ci : w1.cell? ⟨W.heap.size, 16, none⟩ = some (.bool i) := (cell_at gA 16).trans (pt_is x y z t i)
  have cj : w1.cell? ⟨W.heap.size + 1, 16, none⟩ = some (.bool j) := (cell_at gB 16).trans (pt_is x' y' z' t' j)
  have di := later_cell ci
  have dj := later_cell cj
  cases i
  · refine wp_region_later (by kernel_rfl) (by kernel_rfl) ?_
    repeat ((go_big_quiet_step (fail)))
    refine wpQuiet_nil ?_
    intro wL hwL
    obtain ⟨⟨w8, hL⟩, e8⟩ := hwL
    change wL = w8 at e8
    subst e8
    have b2 := hid (below_to b1.out hL)
    go_wp2_with fail
    go_ret
    exact ⟨rfl, b2.out⟩
  · have hj : j = false := by simpa using h
    subst hj
    refine wp_region_later (by kernel_rfl) (by kernel_rfl) ?_
    repeat ((go_big_quiet_step (fail)))
    refine wpQuiet_nil ?_
    intro wL hwL
    obtain ⟨⟨w8, hL⟩, e8⟩ := hwL
    change wL = w8 at e8
    subst e8
    have b2 := hid (below_to b1.out hL)
    go_wp2_with fail
    go_ret
    exact ⟨rfl, b2.out⟩

set_option maxRecDepth 100000 in
set_option maxHeartbeats 4000000 in
theorem psame_core (x y z t x' y' z' t' a b c d : Nat) (q1 q2 : Bool) (W : World) (hx : x < p2) (hy : y < p2) (hz : z < p2) (hx' : x' < p2) (hy' : y' < p2) (hz' : z' < p2)
    (ha : mulN x z' = a) (hb : mulN x' z = b) (hc : mulN y z' = c) (hd : mulN y' z = d) (h1 : decide (a % pP = b % pP) = q1) (h2 : decide (c % pP = d % pP) = q2) :
    Calls Tryd.prog 22 #[.agg (pt x y z t true), .agg (pt x' y' z' t' true)] W fun r w' => r = .returned (.bool (q1 && q2)) ∧ Below W.heap.size W w' := by
  have M1 := hid (fun w => ha ▸ mul_any x z' w hx hz')
  have M2 := hid (fun w => hb ▸ mul_any x' z w hx' hz)
  have M3 := hid (fun w => hc ▸ mul_any y z' w hy hz')
  have M4 := hid (fun w => hd ▸ mul_any y' z w hy' hz)
  have E1 := hid (fun w => h1 ▸ same_any a b w (ha ▸ mul_lt hx hz') (hb ▸ mul_lt hx' hz))
  have E2 := hid (fun w => h2 ▸ same_any c d w (hc ▸ mul_lt hy hz') (hd ▸ mul_lt hy' hz))
  clear ha hb hc hd h1 h2 hx hy hz hx' hy' hz'
  go_enter Tryd.func22, Tryd.ntmps22
  go_upto_region 1 with (fail)
  obtain ⟨w1, hw1⟩ : ∃ w1, (W.alloc (.cells (pt x y z t true) 46)).alloc (.cells (pt x' y' z' t' true) 46) = w1 := ⟨_, rfl⟩
  have kA := kept (show hget w1 (W.heap.size) = some (.cells (pt x y z t true) 46 (0, 0)) by rw [← hw1]; clear hw1; go_simp)
  have kB := kept (show hget w1 (W.heap.size + 1) = some (.cells (pt x' y' z' t' true) 46 (0, 0)) by rw [← hw1]; clear hw1; go_simp)
  have b1 : Hid (Below W.heap.size W w1) := by rw [← hw1]; repeat (first | exact Below.refl _ _ | exact below_new _ | assumption | refine Below.drew ?_ | refine Below.drewN ?_ _ | refine below_alloc ?_ _ | refine below_blk' ?_ (by omega) _)
  rw [hw1]
  clear hw1
  try clear gA lA nA mA
  try clear jA
  have jA := kA.later
  obtain ⟨gA, lA, nA, mA⟩ := kA
  try clear gB lB nB mB
  try clear jB
  have jB := kB.later
  obtain ⟨gB, lB, nB, mB⟩ := kB
  have ci : w1.cell? ⟨W.heap.size, 16, none⟩ = some (.bool true) := (cell_at gA 16).trans (pt_is x y z t true)
  have cj : w1.cell? ⟨W.heap.size + 1, 16, none⟩ = some (.bool true) := (cell_at gB 16).trans (pt_is x' y' z' t' true)
  have di := later_cell ci
  have dj := later_cell cj
  cases q1
  · refine wp_region_later (by kernel_rfl) (by kernel_rfl) ?_
    repeat ((go_big_quiet_step ((first | (go_at_call 27; first | with_reducible exact calls_later (M1.out _) | with_reducible exact calls_later (M2.out _)) | (go_at_call 43; with_reducible exact calls_later (E1.out _))))))
    refine wpQuiet_nil ?_
    intro wL hwL
    obtain ⟨⟨w8, hL⟩, e8⟩ := hwL
    change wL = w8 at e8
    subst e8
    have b2 := hid (below_to b1.out hL)
    go_wp2_with fail
    go_ret
    exact ⟨rfl, b2.out⟩
  · refine wp_region_later (by kernel_rfl) (by kernel_rfl) ?_
    repeat ((go_big_quiet_step ((first | (go_at_call 27; first | with_reducible exact calls_later (M1.out _) | with_reducible exact calls_later (M2.out _) | with_reducible exact calls_later (M3.out _) | with_reducible exact calls_later (M4.out _)) | (go_at_call 43; first | with_reducible exact calls_later (E1.out _) | with_reducible exact calls_later (E2.out _))))))
    refine wpQuiet_nil ?_
    intro wL hwL
    obtain ⟨⟨w8, hL⟩, e8⟩ := hwL
    change wL = w8 at e8
    subst e8
    have b2 := hid (below_to b1.out hL)
    go_wp2_with fail
    go_ret
    exact ⟨by first | rfl | (cases q2 <;> rfl), b2.out⟩
set_option maxRecDepth 100000 in
theorem psame_v (s u : P4) (W : World) (h : s.bd) (k : u.bd) : Calls Tryd.prog 22 #[pv s, pv u] W fun r w' => r = .returned (.bool (s.same u)) ∧ Below W.heap.size W w' :=
  psame_core s.x s.y s.z s.t u.x u.y u.z u.t _ _ _ _ _ _ W h.x h.y h.z k.x k.y k.z rfl rfl rfl rfl rfl rfl

set_option maxRecDepth 100000 in
theorem pbytes_no (x y z t : Nat) (W : World) : Calls Tryd.prog 13 #[.agg (pt x y z t false)] W fun r w' => r = .returned (.string ⟨#[]⟩) ∧ Below W.heap.size W w' := by
  go_enter Tryd.func13, Tryd.ntmps13
  go_upto_region 1 with (fail)
  obtain ⟨w1, hw1⟩ : ∃ w1, W.alloc (.cells (pt x y z t false) 46) = w1 := ⟨_, rfl⟩
  have kA := kept (show hget w1 (W.heap.size) = some (.cells (pt x y z t false) 46 (0, 0)) by rw [← hw1]; clear hw1; go_simp)
  have b1 : Hid (Below W.heap.size W w1) := by rw [← hw1]; repeat (first | exact Below.refl _ _ | exact below_new _ | assumption | refine Below.drew ?_ | refine Below.drewN ?_ _ | refine below_alloc ?_ _ | refine below_blk' ?_ (by omega) _)
  rw [hw1]
  clear hw1
  try clear gA lA nA mA
  try clear jA
  have jA := kA.later
  obtain ⟨gA, lA, nA, mA⟩ := kA
  have ci : w1.cell? ⟨W.heap.size, 16, none⟩ = some (.bool false) := (cell_at gA 16).trans (pt_is x y z t false)
  go_wp2_with fail
  go_ret
  exact ⟨rfl, b1.out⟩

set_option maxRecDepth 100000 in
theorem bytes_enc (a : Nat) (W : World) (ha : a < p2) : Calls Tryd.prog 28 #[.agg (quad a)] W fun e w' => e = .returned (.string (encB (a % pP) false)) ∧ Below W.heap.size W w' := bytes_any a W ha
set_option maxRecDepth 100000 in
set_option maxHeartbeats 4000000 in
theorem pbytes_core (x y z t v a b : Nat) (od : Bool) (s : ByteArray) (W : World) (hx : x < p2) (hy : y < p2) (hz : z < p2)
    (hv : invN z = v) (ha : mulN y v = a) (hb : mulN x v = b) (hs : encB (a % pP) false = s) (ho : decide (b % pP % 2 = 1) = od) (hvl : v < p2) (h32 : s.size = 32) (q : Nat) (hq : bits .or .u8 ((s[31]'(by omega)).toNat : Int) 128 = (q : Int)) (hql : q < 256)
    (o : ByteArray) (hof : od = false → s = o) (hot : od = true → s.extract 0 31 ++ ⟨#[UInt8.ofNat q]⟩ = o) :
    Calls Tryd.prog 13 #[.agg (pt x y z t true)] W fun r w' => r = .returned (.string o) ∧ Below W.heap.size W w' := by
  have I1 := hid (fun w => hv ▸ inv_any z w hz)
  have M1 := hid (fun w => ha ▸ mul_any y v w hy hvl)
  have M2 := hid (fun w => hb ▸ mul_any x v w hx hvl)
  have B1 := hid (fun w => hs ▸ bytes_enc a w (ha ▸ mul_lt hy hvl))
  have O1 := hid (fun w => ho ▸ odd_any b w (hb ▸ mul_lt hx hvl))
  have HS := hid h32
  have HQ := hid hql
  have HOT := hid hot
  clear hot
  clear hql hv ha hb ho hx hy hz hvl hs
  go_enter Tryd.func13, Tryd.ntmps13
  go_upto_region 1 with (fail)
  obtain ⟨w1, hw1⟩ : ∃ w1, W.alloc (.cells (pt x y z t true) 46) = w1 := ⟨_, rfl⟩
  have kA := kept (show hget w1 (W.heap.size) = some (.cells (pt x y z t true) 46 (0, 0)) by rw [← hw1]; clear hw1; go_simp)
  have b1 : Hid (Below W.heap.size W w1) := by rw [← hw1]; repeat (first | exact Below.refl _ _ | exact below_new _ | assumption | refine Below.drew ?_ | refine Below.drewN ?_ _ | refine below_alloc ?_ _ | refine below_blk' ?_ (by omega) _)
  rw [hw1]
  clear hw1
  try clear gA lA nA mA
  try clear jA
  have jA := kA.later
  obtain ⟨gA, lA, nA, mA⟩ := kA
  have ci : w1.cell? ⟨W.heap.size, 16, none⟩ = some (.bool true) := (cell_at gA 16).trans (pt_is x y z t true)
  go_wp2_with fail
  clear ci
  try clear jA
  refine (I1.out _).mono ?_
  rintro e w2 ⟨rfl, hb2⟩
  have kA := Kept.on (kept (b := W.heap.size) (o := .cells (pt x y z t true) 46 (0, 0)) (by go_simp)) hb2
  have b2 : Hid (Below W.heap.size W w2) := below_to (by repeat (first | exact Below.refl _ _ | exact below_new _ | exact b1.out | assumption | refine Below.drew ?_ | refine Below.drewN ?_ _ | refine below_alloc ?_ _ | refine below_blk' ?_ (by omega) _)) hb2
  clear hb2
  try clear gA lA nA mA
  obtain ⟨gA, lA, nA, mA⟩ := kA
  clear b1
  go_upto_region 4 with (fail)
  obtain ⟨Z, hZ⟩ : ∃ b, w2.heap.size = b := ⟨_, rfl⟩
  have wZ : W.heap.size ≤ Z := by rw [← hZ]; exact b2.out.size
  have eAZ : (W.heap.size = Z) = False := by rw [← hZ]; exact nA
  have eZA : (Z = W.heap.size) = False := by rw [← hZ]; exact mA
  obtain ⟨w3, hw3⟩ : ∃ w3, w2.alloc (.cells (quad v) 44) = w3 := ⟨_, rfl⟩
  have kA := kept (show hget w3 (W.heap.size) = some (.cells (pt x y z t true) 46 (0, 0)) by rw [← hw3]; clear hw3; go_simp)
  have kZ := kept (show hget w3 (w2.heap.size) = some (.cells (quad v) 44) by rw [← hw3]; clear hw3; go_simp)
  have b3 : Hid (Below W.heap.size W w3) := by rw [← hw3]; repeat (first | exact Below.refl _ _ | exact below_new _ | exact b2.out | assumption | refine Below.drew ?_ | refine Below.drewN ?_ _ | refine below_alloc ?_ _ | refine below_blk' ?_ (by omega) _)
  rw [hw3]
  clear hw3
  try clear gA lA nA mA
  try clear jA
  have jA := kA.later
  obtain ⟨gA, lA, nA, mA⟩ := kA
  try clear gZ lZ nZ mZ
  try clear jZ
  have jZ := kZ.later
  obtain ⟨gZ, lZ, nZ, mZ⟩ := kZ
  clear b2
  rw [hZ] at *
  clear hZ
  go_wp2_with fail
  try clear jA jZ
  refine (M1.out _).mono ?_
  rintro e w4 ⟨rfl, hb4⟩
  have kA := Kept.on (kept (b := W.heap.size) (o := .cells (pt x y z t true) 46 (0, 0)) (by go_simp)) hb4
  have kZ := Kept.on (kept (b := Z) (o := .cells (quad v) 44 (0, 0)) (by go_simp)) hb4
  have b4 : Hid (Below W.heap.size W w4) := below_to (by repeat (first | exact Below.refl _ _ | exact below_new _ | exact b3.out | assumption | refine Below.drew ?_ | refine Below.drewN ?_ _ | refine below_alloc ?_ _ | refine below_blk' ?_ (by omega) _)) hb4
  clear hb4
  try clear gA lA nA mA
  obtain ⟨gA, lA, nA, mA⟩ := kA
  try clear gZ lZ nZ mZ
  obtain ⟨gZ, lZ, nZ, mZ⟩ := kZ
  clear b3
  go_wp2_with fail
  try clear jA jZ
  refine (B1.out _).mono ?_
  rintro e w5 ⟨rfl, hb5⟩
  have kA := Kept.on (kept (b := W.heap.size) (o := .cells (pt x y z t true) 46 (0, 0)) (by go_simp)) hb5
  have kZ := Kept.on (kept (b := Z) (o := .cells (quad v) 44 (0, 0)) (by go_simp)) hb5
  have b5 : Hid (Below W.heap.size W w5) := below_to (by repeat (first | exact Below.refl _ _ | exact below_new _ | exact b4.out | assumption | refine Below.drew ?_ | refine Below.drewN ?_ _ | refine below_alloc ?_ _ | refine below_blk' ?_ (by omega) _)) hb5
  clear hb5
  try clear gA lA nA mA
  obtain ⟨gA, lA, nA, mA⟩ := kA
  try clear gZ lZ nZ mZ
  obtain ⟨gZ, lZ, nZ, mZ⟩ := kZ
  clear b4
  go_wp2_with fail
  try clear jA jZ
  refine (M2.out _).mono ?_
  rintro e w6 ⟨rfl, hb6⟩
  have kA := Kept.on (kept (b := W.heap.size) (o := .cells (pt x y z t true) 46 (0, 0)) (by go_simp)) hb6
  have kZ := Kept.on (kept (b := Z) (o := .cells (quad v) 44 (0, 0)) (by go_simp)) hb6
  have b6 : Hid (Below W.heap.size W w6) := below_to (by repeat (first | exact Below.refl _ _ | exact below_new _ | exact b5.out | assumption | refine Below.drew ?_ | refine Below.drewN ?_ _ | refine below_alloc ?_ _ | refine below_blk' ?_ (by omega) _)) hb6
  clear hb6
  try clear gA lA nA mA
  obtain ⟨gA, lA, nA, mA⟩ := kA
  try clear gZ lZ nZ mZ
  obtain ⟨gZ, lZ, nZ, mZ⟩ := kZ
  clear b5
  go_wp2_with fail
  try clear jA jZ
  refine (O1.out _).mono ?_
  rintro e w7 ⟨rfl, hb7⟩
  have kA := Kept.on (kept (b := W.heap.size) (o := .cells (pt x y z t true) 46 (0, 0)) (by go_simp)) hb7
  have kZ := Kept.on (kept (b := Z) (o := .cells (quad v) 44 (0, 0)) (by go_simp)) hb7
  have b7 : Hid (Below W.heap.size W w7) := below_to (by repeat (first | exact Below.refl _ _ | exact below_new _ | exact b6.out | assumption | refine Below.drew ?_ | refine Below.drewN ?_ _ | refine below_alloc ?_ _ | refine below_blk' ?_ (by omega) _)) hb7
  clear hb7
  try clear gA lA nA mA
  obtain ⟨gA, lA, nA, mA⟩ := kA
  try clear gZ lZ nZ mZ
  obtain ⟨gZ, lZ, nZ, mZ⟩ := kZ
  clear b6
  cases od
  · go_wp2_with fail
    go_ret
    exact ⟨by first | rfl | exact congrArg (fun x => Ending.returned (Value.string x)) (hof (by first | rfl | trivial)), b7.out⟩
  · go_upto_region 6 with (fail)
    have hs32 : s.size = 32 := HS.out
    have hx31 : (s.extract 0 31).size = 31 := by rw [ByteArray.size_extract]; omega
    have hql : q < 256 := HQ.out
    refine wp_region_gho [5] (fun _ u w => ∃ b, u = .slice (some ⟨b, 0, none⟩) 1 1 ∧ w.heap[b]? = some (.cells #[.int .u8 (q : Int)] 5 (0, 0))) (by kernel_rfl) (by kernel_rfl) (by kernel_rfl) (fun _ u w w' ⟨b, h1, h2⟩ hb => ⟨b, h1, keepB hb h2⟩) ?_
    repeat (first | (refine wpGho_plain (by kernel_rfl) (by decide) (by rfl) (by rfl) (fun K hK => ?_); go_simp; refine hK _ ?_; clear hK K; try go_ints))
    refine wpGho_make (by kernel_rfl) (by decide) (by rfl) (by rfl) (by rfl) (fun K hK => ?_)
    go_simp
    refine ⟨fun x => ⟨below_new _, _, rfl, alloc_at _ _⟩, hK _ ?_⟩
    clear hK K
    refine wpGho_read (by decide) (by rfl) (fun K hK => ?_)
    refine ⟨.string ⟨#[UInt8.ofNat q]⟩, fun g x hR => ?_, hK _ ?_⟩
    · obtain ⟨b8, hb8, hc8⟩ := hR 5 (by decide) (by kernel_rfl)
      rw [show ∀ a, over _ [5] g a = Act.put a (some 26) (g 5) from fun _ => rfl, hb8]
      have cv := conv_byte q hql x.w' b8 (cell_at hc8 0)
      clear hR
      go_simp
      done
    clear hK K
    simp only [Act.put, List.setIfInBounds_toArray, List.set_cons_zero, List.set_cons_succ]
    repeat (first | (refine wpGho_plain (by kernel_rfl) (by decide) (by rfl) (by rfl) (fun K hK => ?_); go_simp; refine hK _ ?_; clear hK K; try go_ints))
    refine wpGho_nil ?_
    intro g wM hwM hR
    obtain ⟨⟨w9, hM⟩, e9⟩ := hwM
    change wM = w9 at e9
    subst e9
    obtain ⟨b8, hb8, hc8⟩ := hR 5 (by decide)
    rw [show ∀ a, over _ [5] g a = Act.put a (some 26) (g 5) from fun _ => rfl, hb8]
    simp only [Act.put, List.setIfInBounds_toArray, List.set_cons_zero, List.set_cons_succ]
    clear hc8 hR hb8
    have b8 := hid (below_to b7.out hM)
    go_wp2_with fail
    go_ret
    exact ⟨congrArg (fun x => Ending.returned (Value.string x)) (HOT.out (by first | rfl | trivial)), b8.out⟩
/-- A point's bytes, as the program reckons them. -/
def P4.bytes (s : P4) : ByteArray := encB (mulN s.y (invN s.z) % pP) (decide (mulN s.x (invN s.z) % pP % 2 = 1))
set_option maxRecDepth 100000 in
theorem or128_u8 (x : UInt8) : bits .or .u8 (x.toNat : Int) 128 = ((x ||| 128).toNat : Int) := by
  rw [show (128 : Int) = ((128 : Nat) : Int) from rfl, u8_or_nat _ _ x.toNat_lt (by decide), UInt8.toNat_or]; rfl
set_option maxRecDepth 100000 in
theorem invN_lt {a : Nat} (h : a < p2) : invN a < p2 := raised_lt h
set_option maxRecDepth 100000 in
theorem pbytes_v (s : P4) (W : World) (h : s.bd) : Calls Tryd.prog 13 #[pv s] W fun r w' => r = .returned (.string s.bytes) ∧ Below W.heap.size W w' := by
  obtain ⟨S, hS⟩ : ∃ S, encB (mulN s.y (invN s.z) % pP) false = S := ⟨_, rfl⟩
  have h32 : S.size = 32 := hS ▸ enc_size _ _
  have hlt : mulN s.y (invN s.z) % pP < t255 := Nat.lt_trans (Nat.mod_lt _ (by decide)) pP_255
  refine pbytes_core s.x s.y s.z s.t _ _ _ _ S W h.x h.y h.z rfl rfl rfl hS rfl (invN_lt h.z) h32 ((S[31]'(by omega)) ||| 128).toNat (or128_u8 _) (UInt8.toNat_lt _) s.bytes (fun ho => ?_) (fun ho => ?_)
  · unfold P4.bytes; rw [ho, hS]
  · unfold P4.bytes; rw [ho, UInt8.ofNat_toNat]; exact enc_top hlt hS (by omega)

end Go.Proofs.YtceljjnohjnepaaDoor

namespace Go.Proofs.YtceljjnohjnepaaDoor
open Go Go.RowKit DG
attribute [local go_sem ↓] exl_Elem exs_Elem exl_Pt exs_Pt exb_Pt
                    attribute [local go_sem] ldm_Elem str_Elem ldr_Pt str_Pt to_quad0 pt_zero bld_pt bld_pt0

set_option maxRecDepth 100000 in
theorem pdecode_short (s : ByteArray) (W : World) (h1 : s.size ≠ 32) (_hmax : s.size ≤ 9223372036854775807) : Calls Tryd.prog 16 #[.string s] W fun r w' => r = .returned (.tuple #[noPt, .int .i64 2]) ∧ Below W.heap.size W w' := by
  have g1 : ((s.size : Int) != 32) = true := by rw [bne_iff_ne]; omega
  clear h1
  go_enter Tryd.func16, Tryd.ntmps16
  go_wp2_with fail
  refine bodyPost_ret (v := .tuple #[.agg (pt 0 0 0 0 false), .int .i64 2]) (results_cell_tmp Tryd.results16 _ _ (W.heap.size) 46 (pt 0 0 0 0 false) (0, 0) _ (.int .i64 2) (by rfl) (by rfl) (by rw [← hget_eq]; go_simp) Tryd.underlying46 rfl (by rw [info_Pt]; go_simp)) rfl ?_
  exact ⟨rfl, by repeat (first | exact Below.refl _ _ | exact below_new _ | assumption | refine Below.drew ?_ | refine Below.drewN ?_ _ | refine below_alloc ?_ _)⟩

set_option maxRecDepth 100000 in
set_option maxHeartbeats 4000000 in
theorem pdecode_core (s u : ByteArray) (q y yy a b c e f _g x t : Nat) (od ok cn : Bool) (W : World) (h1 : s.size = 32) (hq : bits .and .u8 ((s[31]'(by omega)).toNat : Int) 127 = (q : Int)) (hql : q < 256)
    (ho : (bits .and .u8 ((s[31]'(by omega)).toNat : Int) 128 != 0) = od) (hu : s.extract 0 31 ++ ⟨#[UInt8.ofNat q]⟩ = u) (hu32 : u.size = 32)
    (hy : bytesNat u.data.toList = y) (hyy : mulN y y = yy) (ha : subN yy 1 = a) (hb : mulN yy dN = b) (hc : addN b 1 = c) (he : invN c = e) (hf : mulN a e = f) (hok : rootOk f od = ok) (hx : rootV f od = x) (hcn : canB u = cn) (ht : mulN x y = t) :
    Calls Tryd.prog 16 #[.string s] W fun r w' => r = .returned (if ok && cn then .tuple #[.agg (pt x y 1 t true), .int .i64 0] else .tuple #[noPt, .int .i64 90]) ∧ Below W.heap.size W w' := by
  have by_ : y < p2 := hy ▸ bytes32_lt hu32
  have byy : yy < p2 := hyy ▸ mul_lt by_ by_
  have b1 : 1 < p2 := by decide
  have ba : a < p2 := ha ▸ sub_lt byy b1
  have bb : b < p2 := hb ▸ mul_lt byy dN_lt
  have bc : c < p2 := hc ▸ add_lt bb b1
  have be : e < p2 := he ▸ invN_lt bc
  have bf : f < p2 := hf ▸ mul_lt ba be
  have bx : x < p2 := hx ▸ rootV_lt bf od
  have O1 := hid (fun w => hy ▸ Of_32 u w hu32)
  have M1 := hid (fun w => hyy ▸ mul_any y y w by_ by_)
  have K1 := hid (fun w => small_any 1 w (by decide))
  have S1 := hid (fun w => ha ▸ sub_any yy 1 w byy b1)
  have D1 := hid (fun w => d_any w)
  have M2 := hid (fun w => hb ▸ mul_any yy dN w byy dN_lt)
  have A1 := hid (fun w => hc ▸ add_any b 1 w bb b1)
  have I1 := hid (fun w => he ▸ inv_any c w bc)
  have M3 := hid (fun w => hf ▸ mul_any a e w ba be)
  have R1 := fun w => root_any f od w bf
  change ∀ w, Calls _ _ _ _ (fun e w' => e = .returned (.tuple #[.agg (quad (rootV f od)), .bool (rootOk f od)]) ∧ _) at R1
  rw [hok, hx] at R1
  have HR := hid R1
  have C1 := hid (fun w => hcn ▸ canonical_any u w (by omega))
  have M4 := hid (fun w => ht ▸ mul_any x y w bx by_)
  have HU := hid hu
  have HQ := hid hql
  clear R1 hu hy hyy ha hb hc he hf hok hx hcn ht by_ byy b1 ba bb bc be bf bx hql
  have g1 : ((s.size : Int) != 32) = false := by rw [bne_eq_false_iff_eq]; omega
  go_enter Tryd.func16, Tryd.ntmps16
  go_upto_region 4 with (fail)
  obtain ⟨w1, hw1⟩ : ∃ w1, W.alloc (.cells (pt 0 0 0 0 false) 46) = w1 := ⟨_, rfl⟩
  have kR := kept (show hget w1 (W.heap.size) = some (.cells (pt 0 0 0 0 false) 46 (0, 0)) by rw [← hw1]; clear hw1; go_simp)
  have b1 : Hid (Below W.heap.size W w1) := by rw [← hw1]; repeat (first | exact Below.refl _ _ | exact below_new _ | assumption | refine Below.drew ?_ | refine Below.drewN ?_ _ | refine below_alloc ?_ _ | refine below_blk' ?_ (by omega) _)
  rw [hw1]
  clear hw1
  try clear gR lR nR mR
  try clear jR
  have jR := kR.later
  obtain ⟨gR, lR, nR, mR⟩ := kR
  clear jR
  have hx31 : (s.extract 0 31).size = 31 := by rw [ByteArray.size_extract]; omega
  have hql : q < 256 := HQ.out
  refine wp_region_gho [5] (fun _ u w => ∃ b, u = .slice (some ⟨b, 0, none⟩) 1 1 ∧ w.heap[b]? = some (.cells #[.int .u8 (q : Int)] 5 (0, 0))) (by kernel_rfl) (by kernel_rfl) (by kernel_rfl) (fun _ u w w' ⟨b, h1, h2⟩ hb => ⟨b, h1, keepB hb h2⟩) ?_
  repeat (first | (refine wpGho_plain (by kernel_rfl) (by decide) (by rfl) (by rfl) (fun K hK => ?_); go_simp; refine hK _ ?_; clear hK K; try go_ints))
  refine wpGho_make (by kernel_rfl) (by decide) (by rfl) (by rfl) (by rfl) (fun K hK => ?_)
  go_simp
  refine ⟨fun x => ⟨below_new _, _, rfl, alloc_at _ _⟩, hK _ ?_⟩
  clear hK K
  refine wpGho_read (by decide) (by rfl) (fun K hK => ?_)
  refine ⟨.string ⟨#[UInt8.ofNat q]⟩, fun g x hR => ?_, hK _ ?_⟩
  · obtain ⟨b8, hb8, hc8⟩ := hR 5 (by decide) (by kernel_rfl)
    rw [show ∀ a, over _ [5] g a = Act.put a (some 24) (g 5) from fun _ => rfl, hb8]
    have cv := conv_byte q hql x.w' b8 (cell_at hc8 0)
    clear hR
    go_simp
    done
  clear hK K
  simp only [Act.put, List.setIfInBounds_toArray, List.set_cons_zero, List.set_cons_succ]
  repeat (first | (refine wpGho_plain (by kernel_rfl) (by decide) (by rfl) (by rfl) (fun K hK => ?_); go_simp; refine hK _ ?_; clear hK K; try go_ints))
  refine wpGho_nil ?_
  intro g wM hwM hR
  obtain ⟨⟨w9, hM⟩, e9⟩ := hwM
  change wM = w9 at e9
  subst e9
  obtain ⟨b8, hb8, hc8⟩ := hR 5 (by decide)
  rw [show ∀ a, over _ [5] g a = Act.put a (some 24) (g 5) from fun _ => rfl, hb8]
  simp only [Act.put, List.setIfInBounds_toArray, List.set_cons_zero, List.set_cons_succ]
  clear hc8 hR hb8
  have b2 := hid (below_to b1.out hM)
  have gR2 : hget wM W.heap.size = some (.cells (pt 0 0 0 0 false) 46 (0, 0)) := keepB hM gR
  clear b1 gR lR nR mR hM
  generalize wM = w2 at *
  rw [HU.out]
  obtain ⟨gR, lR, nR, mR⟩ := kept (show hget w2 (W.heap.size) = some (.cells (pt 0 0 0 0 false) 46 (0, 0)) by first | assumption | go_simp)
  clear gR2
  go_wp2_with fail
  try clear jR
  refine (O1.out _).mono ?_
  rintro e w3 ⟨rfl, hb3⟩
  have kR := Kept.on (kept (b := W.heap.size) (o := .cells (pt 0 0 0 0 false) 46 (0, 0)) (by go_simp)) hb3
  have b3 : Hid (Below W.heap.size W w3) := below_to (by repeat (first | exact Below.refl _ _ | exact below_new _ | exact b2.out | assumption | refine Below.drew ?_ | refine Below.drewN ?_ _ | refine below_alloc ?_ _ | refine below_blk' ?_ (by omega) _)) hb3
  clear hb3
  try clear gR lR nR mR
  obtain ⟨gR, lR, nR, mR⟩ := kR
  clear b2
  go_upto_region 6 with (fail)
  obtain ⟨Y, hY⟩ : ∃ b, w3.heap.size = b := ⟨_, rfl⟩
  have wY : W.heap.size ≤ Y := by rw [← hY]; exact b3.out.size
  have eRY : (W.heap.size = Y) = False := by rw [← hY]; exact nR
  have eYR : (Y = W.heap.size) = False := by rw [← hY]; exact mR
  obtain ⟨w4, hw4⟩ : ∃ w4, w3.alloc (.cells (quad y) 44) = w4 := ⟨_, rfl⟩
  have kR := kept (show hget w4 (W.heap.size) = some (.cells (pt 0 0 0 0 false) 46 (0, 0)) by rw [← hw4]; clear hw4; go_simp)
  have kY := kept (show hget w4 (w3.heap.size) = some (.cells (quad y) 44) by rw [← hw4]; clear hw4; go_simp)
  have b4 : Hid (Below W.heap.size W w4) := by rw [← hw4]; repeat (first | exact Below.refl _ _ | exact below_new _ | exact b3.out | assumption | refine Below.drew ?_ | refine Below.drewN ?_ _ | refine below_alloc ?_ _ | refine below_blk' ?_ (by omega) _)
  rw [hw4]
  clear hw4
  try clear gR lR nR mR
  try clear jR
  have jR := kR.later
  obtain ⟨gR, lR, nR, mR⟩ := kR
  try clear gY lY nY mY
  try clear jY
  have jY := kY.later
  obtain ⟨gY, lY, nY, mY⟩ := kY
  clear b3
  rw [hY] at *
  clear hY
  go_wp2_with fail
  try clear jR jY
  refine (M1.out _).mono ?_
  rintro e w5 ⟨rfl, hb5⟩
  have kR := Kept.on (kept (b := W.heap.size) (o := .cells (pt 0 0 0 0 false) 46 (0, 0)) (by go_simp)) hb5
  have kY := Kept.on (kept (b := Y) (o := .cells (quad y) 44 (0, 0)) (by go_simp)) hb5
  have b5 : Hid (Below W.heap.size W w5) := below_to (by repeat (first | exact Below.refl _ _ | exact below_new _ | exact b4.out | assumption | refine Below.drew ?_ | refine Below.drewN ?_ _ | refine below_alloc ?_ _ | refine below_blk' ?_ (by omega) _)) hb5
  clear hb5
  try clear gR lR nR mR
  obtain ⟨gR, lR, nR, mR⟩ := kR
  try clear gY lY nY mY
  obtain ⟨gY, lY, nY, mY⟩ := kY
  clear b4
  go_wp2_with fail
  try clear jR jY
  refine (K1.out _).mono ?_
  rintro e w6 ⟨rfl, hb6⟩
  have kR := Kept.on (kept (b := W.heap.size) (o := .cells (pt 0 0 0 0 false) 46 (0, 0)) (by go_simp)) hb6
  have kY := Kept.on (kept (b := Y) (o := .cells (quad y) 44 (0, 0)) (by go_simp)) hb6
  have b6 : Hid (Below W.heap.size W w6) := below_to (by repeat (first | exact Below.refl _ _ | exact below_new _ | exact b5.out | assumption | refine Below.drew ?_ | refine Below.drewN ?_ _ | refine below_alloc ?_ _ | refine below_blk' ?_ (by omega) _)) hb6
  clear hb6
  try clear gR lR nR mR
  obtain ⟨gR, lR, nR, mR⟩ := kR
  try clear gY lY nY mY
  obtain ⟨gY, lY, nY, mY⟩ := kY
  clear b5
  go_upto_region 7 with (fail)
  have nY1 : (Y = w6.heap.size + 1) = False := by simp; omega
  have nR1 : (W.heap.size = w6.heap.size + 1) = False := by simp; omega
  have nY2 : (w6.heap.size + 1 = Y) = False := by simp; omega
  have nR2 : (w6.heap.size + 1 = W.heap.size) = False := by simp; omega
  have lR6 := lR
  obtain ⟨w7, hw7⟩ : ∃ w7, blk (blk ((w6.alloc (.cells (quad 0) 44)).alloc (.cells (quad 0) 44)) w6.heap.size (.cells (quad yy) 44 (0, 0))) (w6.heap.size + 1) (.cells (quad 1) 44 (0, 0)) = w7 := ⟨_, rfl⟩
  have kR := kept (show hget w7 (W.heap.size) = some (.cells (pt 0 0 0 0 false) 46 (0, 0)) by rw [← hw7]; clear hw7; go_simp)
  have kY := kept (show hget w7 (Y) = some (.cells (quad y) 44 (0, 0)) by rw [← hw7]; clear hw7; go_simp)
  have kA := kept (show hget w7 (w6.heap.size) = some (.cells (quad yy) 44 (0, 0)) by rw [← hw7]; clear hw7; go_simp)
  have kB := kept (show hget w7 (w6.heap.size + 1) = some (.cells (quad 1) 44 (0, 0)) by rw [← hw7]; clear hw7; go_simp)
  have b7 : Hid (Below W.heap.size W w7) := by rw [← hw7]; repeat (first | exact Below.refl _ _ | exact below_new _ | exact b6.out | assumption | refine Below.drew ?_ | refine Below.drewN ?_ _ | refine below_alloc ?_ _ | refine below_blk' ?_ (by omega) _)
  rw [hw7]
  clear hw7
  try clear gR lR nR mR
  try clear jR
  have jR := kR.later
  obtain ⟨gR, lR, nR, mR⟩ := kR
  try clear gY lY nY mY
  try clear jY
  have jY := kY.later
  obtain ⟨gY, lY, nY, mY⟩ := kY
  try clear gA lA nA mA
  try clear jA
  have jA := kA.later
  obtain ⟨gA, lA, nA, mA⟩ := kA
  try clear gB lB nB mB
  try clear jB
  have jB := kB.later
  obtain ⟨gB, lB, nB, mB⟩ := kB
  clear b6
  clear jR jY jA jB nY1 nR1 nY2 nR2
  generalize w6.heap.size = A at *
  have vA : ∀ x_ : LaterV w7, hget x_.w' A = some (.cells (quad yy) 44 (0, 0)) := laterx_get gA (by simp)
  have vB : ∀ x_ : LaterV w7, hget x_.w' (A + 1) = some (.cells (quad 1) 44 (0, 0)) := laterx_get gB (by simp)
  refine wp_region_var [15] (fun p => ⟨16, quad 0, quad x, 44⟩) [] (fun _ => ⟨0, #[], #[], 0⟩) (by kernel_rfl) (by kernel_rfl) (by kernel_rfl) (vsep_new (by kernel_rfl)) (fun e he => absurd he (by simp)) (fun hsep => ?_) (fun e he => absurd he (by simp))
  have HSEP := hid hsep
  clear hsep
  repeat (first | (refine wpV_plain0 HSEP.out (by kernel_rfl) (by rfl) (by rfl) (by kernel_rfl) (by kernel_rfl) (fun K hK => ?_); go_simp; refine hK _ ?_; clear hK K; try go_ints) | (refine wpV_plain0 HSEP.out (by kernel_rfl) (by rfl) (by rfl) (by kernel_rfl) (by kernel_rfl) (fun K hK => ?_); go_simp; (with_reducible refine ⟨_, fun x => S1.out _, hK _ ?_⟩); clear hK K; try go_ints) | (refine wpV_plain0 HSEP.out (by kernel_rfl) (by rfl) (by rfl) (by kernel_rfl) (by kernel_rfl) (fun K hK => ?_); go_simp; (with_reducible refine ⟨_, fun x => D1.out _, hK _ ?_⟩); clear hK K; try go_ints) | (refine wpV_plain0 HSEP.out (by kernel_rfl) (by rfl) (by rfl) (by kernel_rfl) (by kernel_rfl) (fun K hK => ?_); go_simp; (with_reducible refine ⟨_, fun x => M2.out _, hK _ ?_⟩); clear hK K; try go_ints) | (refine wpV_plain0 HSEP.out (by kernel_rfl) (by rfl) (by rfl) (by kernel_rfl) (by kernel_rfl) (fun K hK => ?_); go_simp; (with_reducible refine ⟨_, fun x => A1.out _, hK _ ?_⟩); clear hK K; try go_ints) | (refine wpV_plain0 HSEP.out (by kernel_rfl) (by rfl) (by rfl) (by kernel_rfl) (by kernel_rfl) (fun K hK => ?_); go_simp; (with_reducible refine ⟨_, fun x => I1.out _, hK _ ?_⟩); clear hK K; try go_ints) | (refine wpV_plain0 HSEP.out (by kernel_rfl) (by rfl) (by rfl) (by kernel_rfl) (by kernel_rfl) (fun K hK => ?_); go_simp; (with_reducible refine ⟨_, fun x => M3.out _, hK _ ?_⟩); clear hK K; try go_ints) | (refine wpV_plain0 HSEP.out (by kernel_rfl) (by rfl) (by rfl) (by kernel_rfl) (by kernel_rfl) (fun K hK => ?_); go_simp; (with_reducible refine ⟨_, fun x => HR.out _, hK _ ?_⟩); clear hK K; try go_ints) | (refine wpV_make0 HSEP.out (by kernel_rfl) (by rfl) rfl (by rfl) (by kernel_rfl) (by kernel_rfl) (fun K hK => ⟨fun x => (by first | (go_simp; done) | (go_simp; rfl)), hK _ ?_⟩); clear hK K; try go_ints) | (refine wpV_store0 15 (by rfl) (by rfl) HSEP.out (by rfl) rfl (by kernel_rfl) (fun K hK => ⟨fun g bk_ x cs hg hcs hx => (by clear hK HSEP; rcases hcs with hcs | hcs <;> (rw [hcs] at hx; clear hcs; simp only [over, dstOf, List.getElem?_toArray, List.getElem?_cons_succ, List.getElem?_cons_zero, Option.bind_some, hg]; go_simp; done)), hK _ ?_⟩); clear hK K; try go_ints))
  refine wpGho_nil ?_
  intro gL xL h0L hnL haL hlL
  clear h0L hlL HSEP
  obtain ⟨v15, e15, l15, h15⟩ := hnL 15 (by simp)
  try simp at h15
  simp only [over, dstOf, List.getElem?_toArray, List.getElem?_cons_succ, List.getElem?_cons_zero, Option.bind_some, e15]
  have hxb := laterV_below xL
  have fR := laterx_get gR (by simp) xL
  have fY := laterx_get gY (by simp) xL
  have fB := laterx_get gB (by simp) xL
  clear hnL haL e15 vA vB
  generalize xL.w' = w8 at *
  have b8' := hid (below_to b7.out hxb)
  have b7s := b7.out.size
  clear hxb b7 gA lA nA mA gB lB nB mB gY lY nY mY gR lR nR mR S1 D1 M2 A1 I1 M3 HR
  obtain ⟨gR, lR, nR, mR⟩ := kept (show hget w8 (W.heap.size) = some (.cells (pt 0 0 0 0 false) 46 (0, 0)) by first | assumption | go_simp)
  obtain ⟨gY, lY, nY, mY⟩ := kept (show hget w8 (Y) = some (.cells (quad y) 44 (0, 0)) by first | assumption | go_simp)
  obtain ⟨gB, lB, nB, mB⟩ := kept (show hget w8 (A + 1) = some (.cells (quad 1) 44 (0, 0)) by first | assumption | go_simp)
  obtain ⟨gX, lX, nX, mX⟩ := kept (show hget w8 (v15) = some (.cells (quad x) 44 (0, 0)) by first | assumption | go_simp)
  clear fR fY fB h15
  cases ok
  · go_wp2_with fail
    refine bodyPost_ret (v := .tuple #[.agg (pt 0 0 0 0 false), .int .i64 90]) (results_cell_tmp Tryd.results16 _ _ (W.heap.size) 46 (pt 0 0 0 0 false) (0, 0) _ (.int .i64 90) (by rfl) (by rfl) (by rw [← hget_eq]; go_simp) Tryd.underlying46 rfl (by rw [info_Pt]; go_simp)) rfl ?_
    exact ⟨by rfl, below_blk' b8'.out (by omega) _⟩
  · go_wp2_with fail
    try clear jR jY jB jX
    refine (C1.out _).mono ?_
    rintro e w9 ⟨rfl, hb9⟩
    have kR := Kept.on (kept (b := W.heap.size) (o := .cells (pt 0 0 0 0 false) 46 (0, 0)) (by go_simp)) hb9
    have kY := Kept.on (kept (b := Y) (o := .cells (quad y) 44 (0, 0)) (by go_simp)) hb9
    have kB := Kept.on (kept (b := A + 1) (o := .cells (quad 1) 44 (0, 0)) (by go_simp)) hb9
    have kX := Kept.on (kept (b := v15) (o := .cells (quad x) 44 (0, 0)) (by go_simp)) hb9
    have b9 : Hid (Below W.heap.size W w9) := below_to (by repeat (first | exact Below.refl _ _ | exact below_new _ | exact b8'.out | assumption | refine Below.drew ?_ | refine Below.drewN ?_ _ | refine below_alloc ?_ _ | refine below_blk' ?_ (by omega) _)) hb9
    clear hb9
    try clear gR lR nR mR
    obtain ⟨gR, lR, nR, mR⟩ := kR
    try clear gY lY nY mY
    obtain ⟨gY, lY, nY, mY⟩ := kY
    try clear gB lB nB mB
    obtain ⟨gB, lB, nB, mB⟩ := kB
    try clear gX lX nX mX
    obtain ⟨gX, lX, nX, mX⟩ := kX
    clear b8'
    cases cn
    · go_wp2_with fail
      refine bodyPost_ret (v := .tuple #[.agg (pt 0 0 0 0 false), .int .i64 90]) (results_cell_tmp Tryd.results16 _ _ (W.heap.size) 46 (pt 0 0 0 0 false) (0, 0) _ (.int .i64 90) (by rfl) (by rfl) (by rw [← hget_eq]; go_simp) Tryd.underlying46 rfl (by rw [info_Pt]; go_simp)) rfl ?_
      exact ⟨by rfl, below_blk' b9.out (by omega) _⟩
    · go_upto_region 10 with (fail)
      have jR := Kept.later (kept gR)
      have jY := Kept.later (kept gY)
      have jB := Kept.later (kept gB)
      have jX := Kept.later (kept gX)
      refine wp_region_later_tail 7 (by kernel_rfl) (by kernel_rfl) ?_
      simp only [List.take_succ_cons, List.take_zero, List.drop_succ_cons, List.drop_zero]
      repeat ((go_big_quiet_step ((go_at_call 27; with_reducible exact calls_later (M4.out _)))))
      refine wpQuiet_nil ?_
      intro wL hwL
      obtain ⟨⟨w8, hL⟩, e8⟩ := hwL
      change wL = w8 at e8
      subst e8
      obtain ⟨gR, lR, nR, mR⟩ := kept (jR ⟨_, hL⟩)
      go_wp2_with fail
      refine bodyPost_ret (v := .tuple #[.agg (pt x y 1 t true), .int .i64 0]) (results_cell_tmp Tryd.results16 _ _ (W.heap.size) 46 (pt x y 1 t true) (0, 0) _ (.int .i64 0) (by rfl) (by rfl) (by rw [← hget_eq]; go_simp) Tryd.underlying46 rfl (by rw [info_Pt]; go_simp)) rfl ?_
      exact ⟨by rfl, below_blk' (below_to b9.out hL) (by omega) _⟩

end Go.Proofs.YtceljjnohjnepaaDoor
