/- The law TimerReckons: for every input it returns true and leaves its arguments as they were. -/
import Derived.Laws.Cover2
import Derived.Test.YtfifecjnniahiaaM04
import Derived.Test.YtfifecjnniahiaaM02
namespace Go.Proofs.Ytfifecjnniahiaa
open Go.RowKit Go.ChangeShapes Go.WideShapes Go.Deep

set_option maxHeartbeats 1000000 in
theorem reckons_any (n a b c : Nat) (W : World) (hn : n < 18446744073709551616) (ha : a < 18446744073709551616) (hb : b < 18446744073709551616) (hc : c < 18446744073709551616) :
    Calls Try.prog 4 #[.int .u64 (n : Int), .float .f64 a, .float .f64 b, .float .f64 c] W fun e w' => e = .returned (.bool true) ∧ Below W.heap.size W w' := by
  have hm := hid (IE.mixes ha hb hc)
  have hp := hid (IE.pauses (n := n) ha)
  have hN := hid hn
  have B0 := hid (Below.refl W.heap.size W)
  clear hn ha hb hc
  go_enter Try.func4, Try.ntmps4
  go_wp2_with fail
  refine (rate_word n a _).mono ?_
  rintro e w1 ⟨z1, rfl, i1, d1⟩
  have I1 := hid i1
  have B1 := hid (below_dr B0.out d1)
  clear i1 d1
  go_wp2_with fail
  refine (rrate_word n a _).mono ?_
  rintro e w2 ⟨z2, rfl, i2, d2⟩
  have I2 := hid i2
  have B2 := hid (below_dr B1.out d2)
  clear i2 d2
  go_wp2_with fail
  refine (same_word _ z1 z2 I1.out I2.out _).mono ?_
  rintro e w' ⟨rfl, rfl⟩
  go_wp2_with fail
  refine (pause_word n a hN.out hp.out _).mono ?_
  rintro e w' ⟨rfl, rfl⟩
  go_wp2_with fail
  refine (rpause_word n a hN.out hp.out _).mono ?_
  rintro e w3 ⟨rfl, d3⟩
  have B3 := hid (below_dr B2.out d3)
  clear d3
  generalize ((IE.pauseV n a : Nat) : Int) = pv at *
  go_wp2_with fail
  refine (mix_word c a b hm.out _).mono ?_
  rintro e w4 ⟨z4, rfl, i4, d4⟩
  have I4 := hid i4
  have B4 := hid (below_dr B3.out d4)
  clear i4 d4
  go_wp2_with fail
  refine (rmix_word c a b hm.out _).mono ?_
  rintro e w5 ⟨z5, rfl, i5, d5⟩
  have I5 := hid i5
  have B5 := hid (below_dr B4.out d5)
  clear i5 d5
  go_wp2_with fail
  refine (same_word _ z4 z5 I4.out I5.out _).mono ?_
  rintro e w' ⟨rfl, rfl⟩
  go_wp2_with fail
  refine (works_any _).mono ?_
  rintro e w6 ⟨rfl, b6⟩
  have B6 := hid (B5.out.trans (b6.mono B5.out.size))
  clear b6
  go_wp2_with fail
  go_ret
  exact ⟨rfl, B6.out⟩

namespace timerReckons
open Go.ChangeShapes Go.WideShapes Go.ChangeAt Go.RowKit
open Go.ChangeMaps (open_string shut_string)
theorem own : ownKnob Try.prog.godebug = none := by kernel_rfl
theorem laidOut : laidOutB Try.prog = true := by kernel_rfl
set_option maxRecDepth 100000 in
theorem lifted (os : Os) (started : os.Started) (H : Type) (enc : TypeId × Value → H) :
    ReturnsInHanded {} Try.checked os 4 .any (Rows.timerReckonsSpec.pre6 enc Try.prog Try.f4 Rows.timerReckonsRow.domain false) (Rows.timerReckonsSpec.post enc Try.prog Try.f4 false true false false) := by
  refine returnsInHanded_of_change (C := Try.checked) own started (by kernel_rfl) Try.func4
    (ChangeSpec.witness6 (enc := enc) (C := Try.checked) false ⟨#[], #[.int .u64 0, .float .f64 0, .float .f64 0, .float .f64 0], []⟩ 8 (by kernel_rfl) (by kernel_rfl) (by kernel_rfl) (by kernel_rfl)) ?_
  intro W base args ds gs before hval0 hW hcnd _
  have hval : ∀ (j : Nat) t v, Try.f4.params[j]? = some t → args[j]? = some v → Value.okWide Try.prog W .any base t v := hval0
  have hW' := hW
  obtain ⟨p, q, hA0, hV, rfl, hfz, hnd⟩ := hW
  have hA : DataW.TrodAll enc Try.prog W 0 (fun _ => true) true Try.f4.params.toList args.toList ds p := hA0
  rw [Try.params4] at hA hval
  obtain ⟨v0, vs0, d0, ds0, p0, q0, hargs, rfl, rfl, h0, r0⟩ := trodAll_cons hA
  obtain ⟨v1, vs1, d1, ds1, p1, q1, rfl, rfl, rfl, h1, r1⟩ := trodAll_cons r0
  obtain ⟨v2, vs2, d2, ds2, p2, q2, rfl, rfl, rfl, h2, r2⟩ := trodAll_cons r1
  obtain ⟨v3, vs3, d3, ds3, p3, q3, rfl, rfl, rfl, h3, r3⟩ := trodAll_cons r2
  obtain ⟨rfl, rfl, rfl⟩ := trodAll_nil r3
  obtain rfl : args = #[v0, v1, v2, v3] := by cases args; simp_all
  obtain ⟨rfl, rfl⟩ := trodVars_none hV
  have k0 := h0
  have lt0 : ∀ x ∈ p0, x.block < W.heap.size := by obtain ⟨m, hm⟩ := k0; exact DataW.trod_lt m _ _ _ hm
  obtain ⟨a0, rfl, rfl, rfl, w0⟩ := open_int Try.underlying22 (hval 0 22 v0 rfl rfl) h0
  have k1 := h1
  have lt1 : ∀ x ∈ p1, x.block < W.heap.size := by obtain ⟨m, hm⟩ := k1; exact DataW.trod_lt m _ _ _ hm
  obtain ⟨a1, rfl, rfl, rfl, w1⟩ := open_float Try.underlying33 (hval 1 33 v1 rfl rfl) h1
  have k2 := h2
  have lt2 : ∀ x ∈ p2, x.block < W.heap.size := by obtain ⟨m, hm⟩ := k2; exact DataW.trod_lt m _ _ _ hm
  obtain ⟨a2, rfl, rfl, rfl, w2⟩ := open_float Try.underlying33 (hval 2 33 v2 rfl rfl) h2
  have k3 := h3
  have lt3 : ∀ x ∈ p3, x.block < W.heap.size := by obtain ⟨m, hm⟩ := k3; exact DataW.trod_lt m _ _ _ hm
  obtain ⟨a3, rfl, rfl, rfl, w3⟩ := open_float Try.underlying33 (hval 3 33 v3 rfl rfl) h3
  clear hA0 hval0
  have b0 := bounds_u64 w0
  obtain ⟨n, rfl⟩ := Int.eq_ofNat_of_zero_le b0.1
  refine Calls.mono (R := fun e w' => e = .returned (.bool true) ∧ Below W.heap.size W w') ?_ fun e W' ⟨he, bel⟩ => ?_
  · exact reckons_any n a1 a2 a3 W (by omega) (wf_float w1) (wf_float w2) (wf_float w3)
  subst he
  exact ⟨_, rfl, _, _, _, [], _, [], hW', trodAll_mk1 (shut_bool Try.underlying4 _), (trodAll_cons_mk (Below.trod laidOut (by kernel_rfl) (of_decide_eq_true (by kernel_rfl)) k0 bel lt0) (trodAll_cons_mk (Below.trod laidOut (by kernel_rfl) (of_decide_eq_true (by kernel_rfl)) k1 bel lt1) (trodAll_cons_mk (Below.trod laidOut (by kernel_rfl) (of_decide_eq_true (by kernel_rfl)) k2 bel lt2) (trodAll_cons_mk (Below.trod laidOut (by kernel_rfl) (of_decide_eq_true (by kernel_rfl)) k3 bel lt3) trodAll_mk0)))), rfl, bel.frame _, fun h => by cases h⟩

theorem over : Rows.timerReckonsRow.holds Try.pinned (OpenSpec.ofChange Rows.timerReckonsSpec) :=
  OpenClaim.holds_of_wide 4 Try.f4 rfl rfl rfl rfl rfl rfl rfl ⟨rfl, rfl, rfl, rfl, rfl⟩ rfl rfl rfl rfl rfl (by kernel_rfl) Try.func4 (by kernel_rfl)
    (of_decide_eq_true (by kernel_rfl)) (by unfold Func.isWrapper; first | (rw [if_pos (by decide +kernel)]; kernel_rfl) | (rw [if_neg (by decide +kernel)]; exact ⟨rfl, rfl⟩))
    (fun os started H enc _ => lifted os started H enc)
end timerReckons
/-- The given statement. -/
theorem timerReckons_proved : Rows.TimerReckonsSaid := timerReckons.over
#print axioms timerReckons_proved

end Go.Proofs.Ytfifecjnniahiaa
