/- The walks of the numbers: Inv, Root. -/
import Derived.Test.YtoaihbmicdbaiaaNumW10
import Derived.Test.YtoaihbmicdbaiaaNumW5
import Derived.Test.YtoaihbmicdbaiaaPEEL
namespace Go.Proofs.Ytoaihbmicdbaiaa
open Go.RowKit DG
attribute [local go_sem ↓] exl_Elem exs_Elem
                 attribute [local go_sem] ldr_Elem str_Elem
attribute [local go_sem] to_quad0

def invN (a : Nat) : Nat := raisedN a [0, 1, 0, 1, 1]

set_option maxHeartbeats 1000000 in
theorem inv_any (a : Nat) (W : World) (ha : a < p2) : Calls Try.prog 14 #[.agg (quad a)] W fun e w' => e = .returned (.agg (quad (invN a))) ∧ Below W.heap.size W w' := by
  have hr := fun b w h => raised_any a b 5 [0, 1, 0, 1, 1] w ha (by intro x hx; simp at hx; omega) (by decide) (by decide) h
  change ∀ b w, _ → Calls _ _ _ _ (fun e w' => e = .returned (.agg (quad (invN a))) ∧ _) at hr
  generalize invN a = r at *
  have HR := hid hr
  clear hr
  go_enter Try.func14, Try.ntmps14
  go_wp2_with fail
  obtain ⟨w1, hw1⟩ : ∃ w1, ((W.alloc (.cells (quad a) 24)).alloc (.cells (quad 0) 24)).alloc (.cells #[.int .u8 0, .int .u8 1, .int .u8 0, .int .u8 1, .int .u8 1] 5) = w1 := ⟨_, rfl⟩
  have kR := kept (show hget w1 (W.heap.size + 1) = some (.cells (quad 0) 24 (0, 0)) by rw [← hw1]; clear hw1; go_simp)
  have kB := kept (show hget w1 (W.heap.size + 1 + 1) = some (.cells #[.int .u8 0, .int .u8 1, .int .u8 0, .int .u8 1, .int .u8 1] 5 (0, 0)) by rw [← hw1]; clear hw1; go_simp)
  have b1 : Hid (Below W.heap.size W w1) := by rw [← hw1]; repeat (first | exact Below.refl _ _ | exact below_new _ | assumption | refine Below.drew ?_ | refine Below.drewN ?_ _ | refine below_alloc ?_ _ | refine below_blk' ?_ (by omega) _)
  rw [hw1]
  clear hw1
  try clear gR lR nR mR
  try clear jR
  have jR := kR.later
  obtain ⟨gR, lR, nR, mR⟩ := kR
  try clear gB lB nB mB
  try clear jB
  have jB := kB.later
  obtain ⟨gB, lB, nB, mB⟩ := kB
  refine (HR.out _ _ gB).mono ?_
  rintro e w2 ⟨rfl, hb2⟩
  have kR := Kept.on (kept (b := W.heap.size + 1) (o := .cells (quad 0) 24 (0, 0)) (by go_simp)) hb2
  have b2 : Hid (Below W.heap.size W w2) := below_to (by repeat (first | exact Below.refl _ _ | exact below_new _ | exact b1.out | assumption | refine Below.drew ?_ | refine Below.drewN ?_ _ | refine below_alloc ?_ _ | refine below_blk' ?_ (by omega) _)) hb2
  clear hb2
  try clear gR lR nR mR
  obtain ⟨gR, lR, nR, mR⟩ := kR
  clear b1
  go_wp2_with fail
  refine bodyPost_ret (v := .agg (quad r)) (results_cell_row Try.results14 _ _ (W.heap.size + 1) 24 (quad r) (0, 0) _ (by rfl) (by rw [← hget_eq]; go_simp) Try.underlying24 rfl (by rw [info_Elem]; go_simp)) rfl ?_
  exact ⟨rfl, by repeat (first | exact Below.refl _ _ | exact below_new _ | exact b2.out | assumption | refine Below.drew ?_ | refine Below.drewN ?_ _ | refine below_alloc ?_ _ | refine below_blk' ?_ (by omega) _)⟩

/-- The root, as the program reckons it. -/
def root0 (a : Nat) : Nat := raisedN a [1, 0]
def rootS : Nat := raisedN 2 [0, 1, 1]
def root1 (a : Nat) : Nat := if decide (mulN (root0 a) (root0 a) % pP = a % pP) = true then root0 a else mulN (root0 a) rootS
def root2 (a : Nat) (odd : Bool) : Nat := if (decide (root1 a % pP % 2 = 1) == odd) = true then root1 a else subN 0 (root1 a)
def rootOk (a : Nat) (odd : Bool) : Bool := decide (mulN (root2 a odd) (root2 a odd) % pP = a % pP) && (decide (root2 a odd % pP % 2 = 1) == odd)
theorem rootS_lt : rootS < p2 := raised_lt (by decide)
theorem root0_lt {a : Nat} (ha : a < p2) : root0 a < p2 := raised_lt ha
theorem root1_lt {a : Nat} (ha : a < p2) : root1 a < p2 := by
  unfold root1; split
  · exact root0_lt ha
  · exact mul_lt (root0_lt ha) rootS_lt
theorem root2_lt {a : Nat} (ha : a < p2) (odd : Bool) : root2 a odd < p2 := by
  unfold root2; split
  · exact root1_lt ha
  · exact sub_lt (by decide) (root1_lt ha)

set_option maxHeartbeats 4000000 in
theorem root_any (a : Nat) (odd : Bool) (W : World) (ha : a < p2) : Calls Try.prog 11 #[.agg (quad a), .bool odd] W fun e w' => e = .returned (.tuple #[.agg (quad (if rootOk a odd then root2 a odd else 0)), .bool (rootOk a odd)]) ∧ Below W.heap.size W w' := by
  have l0 := root0_lt ha
  have l1 := root1_lt ha
  have l2 := root2_lt ha odd
  have ls := rootS_lt
  have hr0 := fun b w h => raised_any a b 2 [1, 0] w ha (by intro x hx; simp at hx; omega) (by decide) (by decide) h
  have hrs := fun b w h => raised_any 2 b 3 [0, 1, 1] w (by decide) (by intro x hx; simp at hx; omega) (by decide) (by decide) h
  simp only [show raisedN a [1, 0] = root0 a from rfl] at hr0
  simp only [show raisedN 2 [0, 1, 1] = rootS from rfl] at hrs
  have HR0 := hid hr0
  have HRS := hid hrs
  clear hr0 hrs
  have e1 : root1 a = if decide (mulN (root0 a) (root0 a) % pP = a % pP) = true then root0 a else mulN (root0 a) rootS := rfl
  have e2 : root2 a odd = if (decide (root1 a % pP % 2 = 1) == odd) = true then root1 a else subN 0 (root1 a) := rfl
  have e3 : rootOk a odd = (decide (mulN (root2 a odd) (root2 a odd) % pP = a % pP) && (decide (root2 a odd % pP % 2 = 1) == odd)) := rfl
  generalize root0 a = c0 at *
  generalize rootS = s at *
  generalize root1 a = c1 at *
  generalize root2 a odd = c2 at *
  generalize rootOk a odd = ok at *
  have M0 := hid (fun w => mul_any c0 c0 w l0 l0)
  have lm0 := mul_lt l0 l0
  have S0 := hid (fun w => same_any (mulN c0 c0) a w lm0 ha)
  have MS := hid (fun w => mul_any c0 s w l0 ls)
  have lms := mul_lt l0 ls
  have SE1 := fun w => select_any (decide (mulN c0 c0 % pP = a % pP)) (mulN c0 s) c0 w lms l0
  rw [← e1] at SE1
  have HSE1 := hid SE1
  generalize decide (mulN c0 c0 % pP = a % pP) = q1 at *
  generalize mulN c0 c0 = m0 at *
  generalize mulN c0 s = ms at *
  have O1 := hid (fun w => odd_any c1 w l1)
  have U1 := hid (fun w => sub_any 0 c1 w (by decide) l1)
  have lu := sub_lt (a := 0) (b := c1) (by decide) l1
  have SE2 := fun w => select_any (decide (c1 % pP % 2 = 1) == odd) (subN 0 c1) c1 w lu l1
  rw [← e2] at SE2
  have HSE2 := hid SE2
  generalize decide (c1 % pP % 2 = 1) = q2 at *
  generalize subN 0 c1 = u at *
  have M2 := hid (fun w => mul_any c2 c2 w l2 l2)
  have lm2 := mul_lt l2 l2
  have S2 := hid (fun w => same_any (mulN c2 c2) a w lm2 ha)
  have O2 := hid (fun w => odd_any c2 w l2)
  generalize decide (mulN c2 c2 % pP = a % pP) = q3 at *
  generalize decide (c2 % pP % 2 = 1) = q4 at *
  generalize mulN c2 c2 = m2 at *
  have HE := hid e3
  have SM := hid (fun w => small_any 2 w (by decide))
  obtain ⟨rr, hrr⟩ : ∃ rr, (if ok = true then c2 else 0) = rr := ⟨_, rfl⟩
  rw [hrr]
  have HRR := hid hrr
  clear hrr
  clear e1 e2 e3 SE1 SE2 l0 l1 l2 ls lm0 lms lu lm2
  go_enter Try.func11, Try.ntmps11
  go_wp2_with fail
  obtain ⟨w1, hw1⟩ : ∃ w1, ((W.alloc (.cells (quad a) 24)).alloc (.cells (quad 0) 24)).alloc (.cells #[.int .u8 1, .int .u8 0] 5) = w1 := ⟨_, rfl⟩
  have kA := kept (show hget w1 (W.heap.size) = some (.cells (quad a) 24 (0, 0)) by rw [← hw1]; clear hw1; go_simp)
  have kR := kept (show hget w1 (W.heap.size + 1) = some (.cells (quad 0) 24 (0, 0)) by rw [← hw1]; clear hw1; go_simp)
  have kB := kept (show hget w1 (W.heap.size + 1 + 1) = some (.cells #[.int .u8 1, .int .u8 0] 5 (0, 0)) by rw [← hw1]; clear hw1; go_simp)
  have b1 : Hid (Below W.heap.size W w1) := by rw [← hw1]; repeat (first | exact Below.refl _ _ | exact below_new _ | assumption | refine Below.drew ?_ | refine Below.drewN ?_ _ | refine below_alloc ?_ _ | refine below_blk' ?_ (by omega) _)
  rw [hw1]
  clear hw1
  try clear gA lA nA mA
  try clear jA
  have jA := kA.later
  obtain ⟨gA, lA, nA, mA⟩ := kA
  try clear gR lR nR mR
  try clear jR
  have jR := kR.later
  obtain ⟨gR, lR, nR, mR⟩ := kR
  try clear gB lB nB mB
  try clear jB
  have jB := kB.later
  obtain ⟨gB, lB, nB, mB⟩ := kB
  refine (HR0.out _ _ gB).mono ?_
  rintro e w2 ⟨rfl, hb2⟩
  have kA := Kept.on (kept (b := W.heap.size) (o := .cells (quad a) 24 (0, 0)) (by go_simp)) hb2
  have kR := Kept.on (kept (b := W.heap.size + 1) (o := .cells (quad 0) 24 (0, 0)) (by go_simp)) hb2
  have b2 : Hid (Below W.heap.size W w2) := below_to (by repeat (first | exact Below.refl _ _ | exact below_new _ | exact b1.out | assumption | refine Below.drew ?_ | refine Below.drewN ?_ _ | refine below_alloc ?_ _ | refine below_blk' ?_ (by omega) _)) hb2
  clear hb2
  try clear gA lA nA mA
  obtain ⟨gA, lA, nA, mA⟩ := kA
  try clear gR lR nR mR
  obtain ⟨gR, lR, nR, mR⟩ := kR
  clear b1
  clear gB lB nB mB jA jR jB
  go_wp2_with fail
  have hXW := lR
  obtain ⟨w3, hw3⟩ : ∃ w3, w2.alloc (.cells (quad c0) 24) = w3 := ⟨_, rfl⟩
  have kA := kept (show hget w3 (W.heap.size) = some (.cells (quad a) 24 (0, 0)) by rw [← hw3]; clear hw3; go_simp)
  have kR := kept (show hget w3 (W.heap.size + 1) = some (.cells (quad 0) 24 (0, 0)) by rw [← hw3]; clear hw3; go_simp)
  have kX := kept (show hget w3 (w2.heap.size) = some (.cells (quad c0) 24 (0, 0)) by rw [← hw3]; clear hw3; go_simp)
  have b3 : Hid (Below W.heap.size W w3) := by rw [← hw3]; repeat (first | exact Below.refl _ _ | exact below_new _ | exact b2.out | assumption | refine Below.drew ?_ | refine Below.drewN ?_ _ | refine below_alloc ?_ _ | refine below_blk' ?_ (by omega) _)
  rw [hw3]
  clear hw3
  try clear gA lA nA mA
  try clear jA
  have jA := kA.later
  obtain ⟨gA, lA, nA, mA⟩ := kA
  try clear gR lR nR mR
  try clear jR
  have jR := kR.later
  obtain ⟨gR, lR, nR, mR⟩ := kR
  try clear gX lX nX mX
  try clear jX
  have jX := kX.later
  obtain ⟨gX, lX, nX, mX⟩ := kX
  clear b2
  generalize w2.heap.size = X at *
  have q1' : (W.heap.size = X) = False := by simp; omega
  have q2' : (W.heap.size + 1 = X) = False := by simp; omega
  have hWX : W.heap.size ≤ X := by omega
  refine wp_region_gho_last 12 [7] (fun _ u w => ∃ b, u = .slice (some ⟨b, 0, none⟩) 3 3 ∧ w.heap[b]? = some (.cells #[.int .u8 0, .int .u8 1, .int .u8 1] 5 (0, 0))) (by kernel_rfl) (by kernel_rfl) (by kernel_rfl) (by rfl) (by kernel_rfl) (by rfl) (fun _ u w w' ⟨b, h1, h2⟩ hb => ⟨b, h1, keepB hb h2⟩) ?_
  simp only [List.take_succ_cons, List.take_zero]
  repeat (first | (refine wpGho_plain (by kernel_rfl) (by decide) (by rfl) (by rfl) (fun K hK => ?_); go_simp; refine hK _ ?_; clear hK K; try go_ints) | (refine wpGho_plain (by kernel_rfl) (by decide) (by rfl) (by rfl) (fun K hK => ?_); go_simp; refine ⟨_, fun x => (M0.out _), hK _ ?_⟩; clear hK K; try go_ints) | (refine wpGho_plain (by kernel_rfl) (by decide) (by rfl) (by rfl) (fun K hK => ?_); go_simp; refine ⟨_, fun x => (S0.out _), hK _ ?_⟩; clear hK K; try go_ints) | (refine wpGho_plain (by kernel_rfl) (by decide) (by rfl) (by rfl) (fun K hK => ?_); go_simp; refine ⟨_, fun x => (SM.out _), hK _ ?_⟩; clear hK K; try go_ints))
  refine wpGho_make (by kernel_rfl) (by decide) (by rfl) (by rfl) (by rfl) (fun K hK => ?_)
  go_simp
  refine ⟨fun x => ⟨below_new _, _, rfl, alloc_at _ _⟩, hK _ ?_⟩
  clear hK K
  refine wpGho_read (by decide) (by rfl) (fun K hK => ?_)
  refine ⟨.agg (quad s), fun g x hR => ?_, hK _ ?_⟩
  · obtain ⟨b, hb, hc⟩ := hR 7 (by decide) (by kernel_rfl)
    rw [show ∀ a, over _ [7] g a = Act.put a (some 17) (g 7) from fun _ => rfl, hb]
    go_simp
    exact HRS.out b _ hc
  clear hK K
  simp only [Act.put, List.setIfInBounds_toArray, List.set_cons_zero, List.set_cons_succ]
  repeat (first | (refine wpGho_plain (by kernel_rfl) (by decide) (by rfl) (by rfl) (fun K hK => ?_); go_simp; refine hK _ ?_; clear hK K; try go_ints) | (refine wpGho_plain (by kernel_rfl) (by decide) (by rfl) (by rfl) (fun K hK => ?_); go_simp; refine ⟨_, fun x => (MS.out _), hK _ ?_⟩; clear hK K; try go_ints) | (refine wpGho_plain (by kernel_rfl) (by decide) (by rfl) (by rfl) (fun K hK => ?_); go_simp; refine ⟨_, fun x => (HSE1.out _), hK _ ?_⟩; clear hK K; try go_ints))
  refine wpGho_nil ?_
  intro g wM hwM hR
  obtain ⟨⟨w8, hM⟩, e8⟩ := hwM
  change wM = w8 at e8
  subst e8
  obtain ⟨b8, hb8, hc8⟩ := hR 7 (by decide)
  rw [show ∀ a, over _ [7] g a = Act.put a (some 17) (g 7) from fun _ => rfl, hb8]
  simp only [Act.put, List.setIfInBounds_toArray, List.set_cons_zero, List.set_cons_succ]
  have kX : Kept wM _ _ := kept (jX ⟨_, hM⟩)
  have kA : Kept wM _ _ := kept (jA ⟨_, hM⟩)
  have kR : Kept wM _ _ := kept (jR ⟨_, hM⟩)
  have b4 := hid (below_to b3.out hM)
  clear gX gA gR jX jA jR lX lA lR nX nA nR mX mA mR hM hb8 hc8 hR b3
  obtain ⟨gX, lX, nX, mX⟩ := kX
  obtain ⟨gA, lA, nA, mA⟩ := kA
  obtain ⟨gR, lR, nR, mR⟩ := kR
  go_wp2_with fail
  obtain ⟨w5, hw5⟩ : ∃ w5, blk wM X (.cells (quad c1) 24 (0, 0)) = w5 := ⟨_, rfl⟩
  have kA := kept (show hget w5 (W.heap.size) = some (.cells (quad a) 24 (0, 0)) by rw [← hw5]; clear hw5; go_simp)
  have kR := kept (show hget w5 (W.heap.size + 1) = some (.cells (quad 0) 24 (0, 0)) by rw [← hw5]; clear hw5; go_simp)
  have kX := kept (show hget w5 (X) = some (.cells (quad c1) 24 (0, 0)) by rw [← hw5]; clear hw5; go_simp)
  have b5 : Hid (Below W.heap.size W w5) := by rw [← hw5]; repeat (first | exact Below.refl _ _ | exact below_new _ | exact b4.out | assumption | refine Below.drew ?_ | refine Below.drewN ?_ _ | refine below_alloc ?_ _ | refine below_blk' ?_ (by omega) _)
  rw [hw5]
  clear hw5
  try clear gA lA nA mA
  try clear jA
  have jA := kA.later
  obtain ⟨gA, lA, nA, mA⟩ := kA
  try clear gR lR nR mR
  try clear jR
  have jR := kR.later
  obtain ⟨gR, lR, nR, mR⟩ := kR
  try clear gX lX nX mX
  try clear jX
  have jX := kX.later
  obtain ⟨gX, lX, nX, mX⟩ := kX
  clear b4
  refine wp_region_later_tail 9 (by kernel_rfl) (by kernel_rfl) ?_
  simp only [List.take_succ_cons, List.take_zero, List.drop_succ_cons, List.drop_zero]
  repeat ((go_big_quiet_step ((first | (go_at_call 21; with_reducible exact calls_later (O1.out _)) | (go_at_call 24; with_reducible exact calls_later (U1.out _)) | (go_at_call 28; with_reducible exact calls_later (HSE2.out _))))))
  refine wpQuiet_nil ?_
  intro wL hwL
  obtain ⟨⟨w8, hL⟩, e8⟩ := hwL
  change wL = w8 at e8
  subst e8
  obtain ⟨gX, lX, nX, mX⟩ := kept (jX ⟨_, hL⟩)
  obtain ⟨gA, lA, nA, mA⟩ := kept (jA ⟨_, hL⟩)
  obtain ⟨gR, lR, nR, mR⟩ := kept (jR ⟨_, hL⟩)
  have b6 := hid (below_to b5.out hL)
  clear jX jA jR b5
  go_wp2_with fail
  obtain ⟨w7, hw7⟩ : ∃ w7, blk wL X (.cells (quad c2) 24 (0, 0)) = w7 := ⟨_, rfl⟩
  have kA := kept (show hget w7 (W.heap.size) = some (.cells (quad a) 24 (0, 0)) by rw [← hw7]; clear hw7; go_simp)
  have kR := kept (show hget w7 (W.heap.size + 1) = some (.cells (quad 0) 24 (0, 0)) by rw [← hw7]; clear hw7; go_simp)
  have kX := kept (show hget w7 (X) = some (.cells (quad c2) 24 (0, 0)) by rw [← hw7]; clear hw7; go_simp)
  have b7 : Hid (Below W.heap.size W w7) := by rw [← hw7]; repeat (first | exact Below.refl _ _ | exact below_new _ | exact b6.out | assumption | refine Below.drew ?_ | refine Below.drewN ?_ _ | refine below_alloc ?_ _ | refine below_blk' ?_ (by omega) _)
  rw [hw7]
  clear hw7
  try clear gA lA nA mA
  try clear jA
  have jA := kA.later
  obtain ⟨gA, lA, nA, mA⟩ := kA
  try clear gR lR nR mR
  try clear jR
  have jR := kR.later
  obtain ⟨gR, lR, nR, mR⟩ := kR
  try clear gX lX nX mX
  try clear jX
  have jX := kX.later
  obtain ⟨gX, lX, nX, mX⟩ := kX
  clear b6
  clear hL
  have e3 := HE.out
  cases q3
  · skip
    have E := hid e3
    clear e3
    refine wp_region_later (by kernel_rfl) (by kernel_rfl) ?_
    repeat ((go_big_quiet_step ((first | (go_at_call 26; with_reducible exact calls_later (M2.out _)) | (go_at_call 20; with_reducible exact calls_later (S2.out _)) | (go_at_call 21; with_reducible exact calls_later (O2.out _))))))
    refine wpQuiet_nil ?_
    intro wL hwL
    obtain ⟨⟨w8, hL⟩, e8⟩ := hwL
    change wL = w8 at e8
    subst e8
    have kR : Kept wL _ _ := kept (jR ⟨_, hL⟩)
    have b8 := hid (below_to b7.out hL)
    clear jX jA jR b7 hL gX gA gR lX lA lR nX nA nR mX mA mR
    obtain ⟨gR, lR, nR, mR⟩ := kR
    go_wp2_with fail
    refine bodyPost_ret (v := .tuple #[.agg (quad 0), .bool false]) (results_cell_tmp Try.results11 _ _ (W.heap.size + 1) 24 (quad 0) (0, 0) _ (.bool false) (by rfl) (by rfl) (by rw [← hget_eq]; go_simp) Try.underlying24 rfl (by rw [info_Elem]; go_simp)) rfl ?_
    exact ⟨by rw [← HRR.out, E.out]; simp, by repeat (first | exact Below.refl _ _ | exact below_new _ | exact b8.out | assumption | refine Below.drew ?_ | refine Below.drewN ?_ _ | refine below_alloc ?_ _ | refine below_blk' ?_ (by omega) _)⟩
  · have hne : (q4 != odd) = !(q4 == odd) := rfl
    cases hq : (q4 == odd)
    · rw [hq] at e3 hne
      have E := hid e3
      clear e3
      refine wp_region_later (by kernel_rfl) (by kernel_rfl) ?_
      repeat ((go_big_quiet_step ((first | (go_at_call 26; with_reducible exact calls_later (M2.out _)) | (go_at_call 20; with_reducible exact calls_later (S2.out _)) | (go_at_call 21; with_reducible exact calls_later (O2.out _))))))
      refine wpQuiet_nil ?_
      intro wL hwL
      obtain ⟨⟨w8, hL⟩, e8⟩ := hwL
      change wL = w8 at e8
      subst e8
      have kR : Kept wL _ _ := kept (jR ⟨_, hL⟩)
      have b8 := hid (below_to b7.out hL)
      clear jX jA jR b7 hL gX gA gR lX lA lR nX nA nR mX mA mR
      obtain ⟨gR, lR, nR, mR⟩ := kR
      go_wp2_with fail
      refine bodyPost_ret (v := .tuple #[.agg (quad 0), .bool false]) (results_cell_tmp Try.results11 _ _ (W.heap.size + 1) 24 (quad 0) (0, 0) _ (.bool false) (by rfl) (by rfl) (by rw [← hget_eq]; go_simp) Try.underlying24 rfl (by rw [info_Elem]; go_simp)) rfl ?_
      exact ⟨by rw [← HRR.out, E.out]; simp, by repeat (first | exact Below.refl _ _ | exact below_new _ | exact b8.out | assumption | refine Below.drew ?_ | refine Below.drewN ?_ _ | refine below_alloc ?_ _ | refine below_blk' ?_ (by omega) _)⟩
    · rw [hq] at e3 hne
      have E := hid e3
      clear e3
      refine wp_region_later (by kernel_rfl) (by kernel_rfl) ?_
      repeat ((go_big_quiet_step ((first | (go_at_call 26; with_reducible exact calls_later (M2.out _)) | (go_at_call 20; with_reducible exact calls_later (S2.out _)) | (go_at_call 21; with_reducible exact calls_later (O2.out _))))))
      refine wpQuiet_nil ?_
      intro wL hwL
      obtain ⟨⟨w8, hL⟩, e8⟩ := hwL
      change wL = w8 at e8
      subst e8
      have kR : Kept wL _ _ := kept (jR ⟨_, hL⟩)
      have kX : Kept wL _ _ := kept (jX ⟨_, hL⟩)
      have b8 := hid (below_to b7.out hL)
      clear jX jA jR b7 hL gX gA gR lX lA lR nX nA nR mX mA mR
      obtain ⟨gR, lR, nR, mR⟩ := kR
      obtain ⟨gX, lX, nX, mX⟩ := kX
      go_wp2_with fail
      refine bodyPost_ret (v := .tuple #[.agg (quad c2), .bool true]) (results_cell_tmp Try.results11 _ _ (W.heap.size + 1) 24 (quad c2) (0, 0) _ (.bool true) (by rfl) (by rfl) (by rw [← hget_eq]; go_simp) Try.underlying24 rfl (by rw [info_Elem]; go_simp)) rfl ?_
      exact ⟨by rw [← HRR.out, E.out]; simp, by repeat (first | exact Below.refl _ _ | exact below_new _ | exact b8.out | assumption | refine Below.drew ?_ | refine Below.drewN ?_ _ | refine below_alloc ?_ _ | refine below_blk' ?_ (by omega) _)⟩

end Go.Proofs.Ytoaihbmicdbaiaa
