/- The laws' helpers: is, alive. -/
import Derived.Test.YtoaihbmicdbaiaaNumR6
import Derived.Test.YtoaihbmicdbaiaaNumW11
namespace Go.Proofs.Ytoaihbmicdbaiaa
open Go.RowKit DG
attribute [local go_sem ↓] exl_Elem exs_Elem exl_Num exs_Num
                 attribute [local go_sem] ldr_Elem str_Elem ldr_Num str_Num
attribute [local go_sem] to_quad0 to_nine0

set_option maxHeartbeats 1000000 in
theorem is_any (a n : Nat) (W : World) (ha : a < p2) (h : a % pP = n) : Calls Try.prog 13 #[.agg (quad a), .agg (nine n)] W fun e w' => e = .returned (.bool true) ∧ Below W.heap.size W w' := by
  have h1 := hid (fun w => bytes_any a w ha)
  have h2 := hid (fun w => ref_Bytes n w (by have := Nat.mod_lt a (show 0 < pP by decide); unfold pP at *; omega))
  rw [h] at h1
  generalize (natBytes n 32).toArray = bs at *
  clear h
  go_enter Try.func13, Try.ntmps13
  go_wp2_with fail
  obtain ⟨w1, hw1⟩ : ∃ w1, (W.alloc (.cells (quad a) 24)).alloc (.cells (nine n) 30) = w1 := ⟨_, rfl⟩
  have kA := kept (show hget w1 (W.heap.size) = some (.cells (quad a) 24 (0, 0)) by rw [← hw1]; clear hw1; go_simp)
  have kB := kept (show hget w1 (W.heap.size + 1) = some (.cells (nine n) 30 (0, 0)) by rw [← hw1]; clear hw1; go_simp)
  have b1 : Hid (Below W.heap.size W w1) := by rw [← hw1]; repeat (first | exact Below.refl _ _ | exact below_new _ | assumption | refine Below.drew ?_ | refine Below.drewN ?_ _ | refine below_alloc ?_ _ | refine below_blk' ?_ (by omega) _)
  rw [hw1]
  clear hw1
  try clear gA lA nA mA
  try clear jA
  have jA := kA.later
  obtain ⟨gA, lA, nA, mA⟩ := kA
  try clear gB lB nB mB
  try clear jB
  have jB := kB.later
  obtain ⟨gB, lB, nB, mB⟩ := kB
  refine wp_region_later (by kernel_rfl) (by kernel_rfl) ?_
  repeat ((go_big_quiet_step ((first | (go_at_call 30; with_reducible exact calls_later (h1.out _)) | (go_at_call 35; with_reducible exact calls_later (h2.out _))))))
  refine wpQuiet_nil ?_
  intro wL hwL
  obtain ⟨⟨w8, hL⟩, e8⟩ := hwL
  change wL = w8 at e8
  subst e8
  have b2 := hid (below_to b1.out hL)
  clear hL
  go_wp2_with fail
  go_ret
  exact ⟨rfl, b2.out⟩

def one2 : Nat := mulN 2 (invN 2)
def two4 : Nat := root2 4 false
theorem one2_lt : one2 < p2 := mul_lt (by decide) (raised_lt (by decide))
theorem one2_mod : one2 % pP = 1 := by decide +kernel
theorem two4_lt : two4 < p2 := root2_lt (by decide) false
theorem two4_mod : two4 % pP = 2 := by decide +kernel
theorem ok4 : rootOk 4 false = true := by decide +kernel
theorem ok2 : rootOk 2 true = false := by decide +kernel

set_option maxRecDepth 100000 in
set_option maxHeartbeats 4000000 in
theorem alive_any (W : World) : Calls Try.prog 9 #[] W fun e w' => e = .returned (.bool true) ∧ Below W.heap.size W w' := by
  have l1 := one2_lt
  have l2 := two4_lt
  have r4 := fun w => root_any 4 false w (by decide)
  simp only [ok4, if_true] at r4
  have r2 := fun w => root_any 2 true w (by decide)
  simp only [ok2, Bool.false_eq_true, if_false] at r2
  have inv := fun w => inv_any 2 w (by decide)
  have mu := fun w => mul_any 2 (invN 2) w (by decide) (raised_lt (by decide))
  have by1 := fun w => bytes_any one2 w l1
  simp only [one2_mod, show (natBytes 1 32).toArray = #[1, 0, 0, 0, 0, 0, 0, 0, 0, 0, 0, 0, 0, 0, 0, 0, 0, 0, 0, 0, 0, 0, 0, 0, 0, 0, 0, 0, 0, 0, 0, 0] from by decide +kernel] at by1
  obtain ⟨s1, hs1⟩ : ∃ s1, ByteArray.mk #[1, 0, 0, 0, 0, 0, 0, 0, 0, 0, 0, 0, 0, 0, 0, 0, 0, 0, 0, 0, 0, 0, 0, 0, 0, 0, 0, 0, 0, 0, 0, 0] = s1 := ⟨_, rfl⟩
  have hsz : s1.size = 32 := by rw [← hs1]; rfl
  have hszi : 0 < s1.size := by omega
  have hb0 : s1[0].toNat = 1 := by subst hs1; rfl
  simp only [hs1] at by1
  clear hs1
  have sa1 := fun w => same_any two4 2 w l2 (by decide)
  simp only [two4_mod, show decide (2 = 2 % pP) = true from by decide +kernel] at sa1
  have od3 := fun w => odd_any 3 w (by decide)
  have od2 := fun w => odd_any 2 w (by decide)
  have se1 := fun w => select_any true one2 2 w l1 (by decide)
  have sa2 := fun w => same_any 2 2 w (by decide) (by decide)
  have se2 := fun w => select_any false one2 2 w l1 (by decide)
  have sa3 := fun w => same_any one2 one2 w l1 l1
  simp only [show decide (3 % pP % 2 = 1) = true from by decide +kernel] at od3
  simp only [show decide (2 % pP % 2 = 1) = false from by decide +kernel] at od2
  simp only [decide_true, if_true] at se1 sa2 sa3
  simp only [Bool.false_eq_true, if_false] at se2
  change ∀ w, Calls _ _ _ w (fun e w' => e = .returned (.agg (quad one2)) ∧ _) at mu
  change ∀ w, Calls _ _ _ w (fun e w' => e = .returned (.tuple #[.agg (quad two4), _]) ∧ _) at r4
  generalize one2 = one at *
  generalize two4 = tw at *
  generalize invN 2 = iv at *
  have R4 := hid r4
  have R2 := hid r2
  have INV := hid inv
  have MU := hid mu
  have BY := hid by1
  have SA1 := hid sa1
  have OD3 := hid od3
  have OD2 := hid od2
  have SE1 := hid se1
  have SA2 := hid sa2
  have SE2 := hid se2
  have SA3 := hid sa3
  have S2 := hid (fun w => small_any 2 w (by decide))
  have S3 := hid (fun w => small_any 3 w (by decide))
  have S4 := hid (fun w => small_any 4 w (by decide))
  have OF := hid (fun w => Of_no ⟨#[115, 104, 111, 114, 116]⟩ w (by decide) (by decide))
  clear r4 r2 inv mu by1 sa1 od3 od2 se1 sa2 se2 sa3 l1 l2
  go_enter Try.func9, Try.ntmps9
  go_wp2_with fail
  refine (S2.out _).mono ?_
  rintro e w1 ⟨rfl, hb1⟩
  have b1 : Hid (Below W.heap.size W w1) := below_to (by repeat (first | exact Below.refl _ _ | exact below_new _ | assumption | refine Below.drew ?_ | refine Below.drewN ?_ _ | refine below_alloc ?_ _ | refine below_blk' ?_ (by omega) _)) hb1
  clear hb1
  go_wp2_with fail
  obtain ⟨T, hT⟩ : ∃ T, w1.heap.size = T := ⟨_, rfl⟩
  have hTW : W.heap.size ≤ T := by rw [← hT]; exact b1.out.size
  obtain ⟨w2, hw2⟩ : ∃ w2, w1.alloc (.cells (quad 2) 24) = w2 := ⟨_, rfl⟩
  have kT := kept (show hget w2 (w1.heap.size) = some (.cells (quad 2) 24 (0, 0)) by rw [← hw2]; clear hw2; go_simp)
  have b2 : Hid (Below W.heap.size W w2) := by rw [← hw2]; repeat (first | exact Below.refl _ _ | exact below_new _ | exact b1.out | assumption | refine Below.drew ?_ | refine Below.drewN ?_ _ | refine below_alloc ?_ _ | refine below_blk' ?_ (by omega) _)
  rw [hw2]
  clear hw2
  try clear gT lT nT mT
  try clear jT
  have jT := kT.later
  obtain ⟨gT, lT, nT, mT⟩ := kT
  clear b1
  rw [hT] at *
  clear hT
  refine (S4.out _).mono ?_
  rintro e w3 ⟨rfl, hb3⟩
  have kT := Kept.on (kept (b := T) (o := .cells (quad 2) 24 (0, 0)) (by go_simp)) hb3
  have b3 : Hid (Below W.heap.size W w3) := below_to (by repeat (first | exact Below.refl _ _ | exact below_new _ | exact b2.out | assumption | refine Below.drew ?_ | refine Below.drewN ?_ _ | refine below_alloc ?_ _ | refine below_blk' ?_ (by omega) _)) hb3
  clear hb3
  try clear gT lT nT mT
  obtain ⟨gT, lT, nT, mT⟩ := kT
  clear b2
  go_wp2_with fail
  refine (R4.out _).mono ?_
  rintro e w4 ⟨rfl, hb4⟩
  have kT := Kept.on (kept (b := T) (o := .cells (quad 2) 24 (0, 0)) (by go_simp)) hb4
  have b4 : Hid (Below W.heap.size W w4) := below_to (by repeat (first | exact Below.refl _ _ | exact below_new _ | exact b3.out | assumption | refine Below.drew ?_ | refine Below.drewN ?_ _ | refine below_alloc ?_ _ | refine below_blk' ?_ (by omega) _)) hb4
  clear hb4
  try clear gT lT nT mT
  obtain ⟨gT, lT, nT, mT⟩ := kT
  clear b3
  go_wp2_with fail
  obtain ⟨R, hR⟩ : ∃ R, w4.heap.size = R := ⟨_, rfl⟩
  have hTR : (T = R) = False := by rw [← hR]; exact nT
  obtain ⟨w5, hw5⟩ : ∃ w5, w4.alloc (.cells (quad tw) 24) = w5 := ⟨_, rfl⟩
  have kT := kept (show hget w5 (T) = some (.cells (quad 2) 24 (0, 0)) by rw [← hw5]; clear hw5; go_simp)
  have kR := kept (show hget w5 (w4.heap.size) = some (.cells (quad tw) 24 (0, 0)) by rw [← hw5]; clear hw5; go_simp)
  have b5 : Hid (Below W.heap.size W w5) := by rw [← hw5]; repeat (first | exact Below.refl _ _ | exact below_new _ | exact b4.out | assumption | refine Below.drew ?_ | refine Below.drewN ?_ _ | refine below_alloc ?_ _ | refine below_blk' ?_ (by omega) _)
  rw [hw5]
  clear hw5
  try clear gT lT nT mT
  try clear jT
  have jT := kT.later
  obtain ⟨gT, lT, nT, mT⟩ := kT
  try clear gR lR nR mR
  try clear jR
  have jR := kR.later
  obtain ⟨gR, lR, nR, mR⟩ := kR
  clear b4
  rw [hR] at *
  clear hR
  refine (R2.out _).mono ?_
  rintro e w6 ⟨rfl, hb6⟩
  have kT := Kept.on (kept (b := T) (o := .cells (quad 2) 24 (0, 0)) (by go_simp)) hb6
  have kR := Kept.on (kept (b := R) (o := .cells (quad tw) 24 (0, 0)) (by go_simp)) hb6
  have b6 : Hid (Below W.heap.size W w6) := below_to (by repeat (first | exact Below.refl _ _ | exact below_new _ | exact b5.out | assumption | refine Below.drew ?_ | refine Below.drewN ?_ _ | refine below_alloc ?_ _ | refine below_blk' ?_ (by omega) _)) hb6
  clear hb6
  try clear gT lT nT mT
  obtain ⟨gT, lT, nT, mT⟩ := kT
  try clear gR lR nR mR
  obtain ⟨gR, lR, nR, mR⟩ := kR
  clear b5
  go_wp2_with fail
  refine (OF.out _).mono ?_
  rintro e w7 ⟨rfl, hb7⟩
  have kT := Kept.on (kept (b := T) (o := .cells (quad 2) 24 (0, 0)) (by go_simp)) hb7
  have kR := Kept.on (kept (b := R) (o := .cells (quad tw) 24 (0, 0)) (by go_simp)) hb7
  have b7 : Hid (Below W.heap.size W w7) := below_to (by repeat (first | exact Below.refl _ _ | exact below_new _ | exact b6.out | assumption | refine Below.drew ?_ | refine Below.drewN ?_ _ | refine below_alloc ?_ _ | refine below_blk' ?_ (by omega) _)) hb7
  clear hb7
  try clear gT lT nT mT
  obtain ⟨gT, lT, nT, mT⟩ := kT
  try clear gR lR nR mR
  obtain ⟨gR, lR, nR, mR⟩ := kR
  clear b6
  go_wp2_with fail
  obtain ⟨w8, hw8⟩ : ∃ w8, w7.alloc (.cells (quad 0) 24) = w8 := ⟨_, rfl⟩
  have kT := kept (show hget w8 (T) = some (.cells (quad 2) 24 (0, 0)) by rw [← hw8]; clear hw8; go_simp)
  have kR := kept (show hget w8 (R) = some (.cells (quad tw) 24 (0, 0)) by rw [← hw8]; clear hw8; go_simp)
  have b8 : Hid (Below W.heap.size W w8) := by rw [← hw8]; repeat (first | exact Below.refl _ _ | exact below_new _ | exact b7.out | assumption | refine Below.drew ?_ | refine Below.drewN ?_ _ | refine below_alloc ?_ _ | refine below_blk' ?_ (by omega) _)
  rw [hw8]
  clear hw8
  try clear gT lT nT mT
  try clear jT
  have jT := kT.later
  obtain ⟨gT, lT, nT, mT⟩ := kT
  try clear gR lR nR mR
  try clear jR
  have jR := kR.later
  obtain ⟨gR, lR, nR, mR⟩ := kR
  clear b7
  refine wp_region_ghs [4] (fun i u w => ∃ b, w8.heap.size ≤ b ∧ u = .pointer (some ⟨b, 0, none⟩) ∧ w.heap[b]? = some (.cells (quad 0) 24 (0, 0))) 5
    (fun g w => ∃ b, w8.heap.size ≤ b ∧ g 4 = .pointer (some ⟨b, 0, none⟩) ∧ w.heap[b]? = some (.cells (quad one) 24 (0, 0))) (by kernel_rfl) (by kernel_rfl) (by kernel_rfl) (by kernel_rfl) (by decide) (by kernel_rfl) (by kernel_rfl)
    (fun _ u w w' ⟨b, x0, x1, x2⟩ hb => ⟨b, x0, x1, keepB hb x2⟩) (fun g w w' ⟨b, x0, x1, x2⟩ hb => ⟨b, x0, x1, keepB hb x2⟩) ?_
  repeat (first | (refine wpGho_plain (by kernel_rfl) (by decide) (by rfl) (by rfl) (fun K hK => ?_); go_simp; refine hK _ ?_; clear hK K; try go_ints) | (refine wpGho_plain (by kernel_rfl) (by decide) (by rfl) (by rfl) (fun K hK => ?_); go_simp; refine ⟨_, fun x => (INV.out _), hK _ ?_⟩; clear hK K; try go_ints) | (refine wpGho_plain (by kernel_rfl) (by decide) (by rfl) (by rfl) (fun K hK => ?_); go_simp; refine ⟨_, fun x => (MU.out _), hK _ ?_⟩; clear hK K; try go_ints))
  refine wpGho_make (by kernel_rfl) (by decide) (by rfl) (by rfl) (by rfl) (fun K hK => ?_)
  go_simp
  refine ⟨fun x => ⟨below_new _, _, x.h.size, rfl, alloc_at _ _⟩, hK _ ?_⟩
  clear hK K
  refine wpGhs_store (by rfl) (by rfl) (fun K hK => ?_)
  refine ⟨fun g x hR => ?_, hK _ ?_⟩
  · obtain ⟨b, hbW, hb, hc⟩ := hR 4 (by decide) (by kernel_rfl)
    rw [show ∀ a, over _ [4] g a = Act.put a (some 8) (g 4) from fun _ => rfl, hb]
    have hc' : hget x.w' b = some (.cells (quad 0) 24 (0, 0)) := hc
    have hlt := hget_lt hc'
    clear hR jT jR
    go_simp
    exact ⟨rfl, ⟨⟨_, below_blk' x.h hbW _⟩, rfl⟩, b, hbW, rfl, blk_heap hlt⟩
  clear hK K
  simp only [Act.put, List.setIfInBounds_toArray, List.set_cons_zero, List.set_cons_succ]
  refine wpGho_nil ?_
  rintro g w9 ⟨x9, hx9⟩ ⟨b, hbW, hb, hc⟩
  rw [show ∀ a, over _ [4] g a = Act.put a (some 8) (g 4) from fun _ => rfl, hb]
  simp only [Act.put, List.setIfInBounds_toArray, List.set_cons_zero, List.set_cons_succ]
  subst hx9
  obtain ⟨w9, hx9⟩ : ∃ w9, x9.w' = w9 := ⟨_, rfl⟩
  have k1 := kept (jT x9)
  have k2 := kept (jR x9)
  have k3 := kept (show hget x9.w' b = some (.cells (quad one) 24 (0, 0)) from hc)
  have b9 : Hid (Below W.heap.size W w9) := by rw [← hx9]; exact below_to b8.out x9.h
  rw [hx9] at k1 k2 k3 ⊢
  clear jT jR gT gR lT lR nT nR mT mR hc hb hx9 x9 b8
  have jT := k1.later
  have jR := k2.later
  have jB := k3.later
  clear k1 k2 k3 INV MU
  go_wp2_with fail
  refine wp_region_later (by kernel_rfl) (by kernel_rfl) ?_
  repeat ((go_big_quiet_step ((first | (go_at_call 30; with_reducible exact calls_later (BY.out _)) | (go_at_call 18; with_reducible exact calls_later (S3.out _)) | (go_at_call 21; with_reducible exact calls_later (OD3.out _)) | (go_at_call 21; with_reducible exact calls_later (OD2.out _)) | (go_at_call 20; first | with_reducible exact calls_later (SA1.out _) | with_reducible exact calls_later (SA2.out _) | with_reducible exact calls_later (SA3.out _)) | (go_at_call 28; first | with_reducible exact calls_later (SE1.out _) | with_reducible exact calls_later (SE2.out _))))))
  refine wpQuiet_nil ?_
  intro wL hwL
  obtain ⟨⟨w8, hL⟩, e8⟩ := hwL
  change wL = w8 at e8
  subst e8
  have bZ := hid (below_to b9.out hL)
  clear hL
  go_wp2_with fail
  go_ret
  exact ⟨rfl, bZ.out⟩

end Go.Proofs.Ytoaihbmicdbaiaa
